/-
  The law of what is owed, run by the machine: one case of the amount.
-/
import Derived.Test.YtdjdipehfnnhpaaAgH
namespace Go.Proofs.Ytdjdipehfnnhpaa
open Go Go.Ev Go.RowKit Go.Tie Go.Spl Go.Srt Go.Lib
set_option maxHeartbeats 4000000
set_option linter.unusedSimpArgs false
set_option linter.unusedVariables false
attribute [local go_sem] subE partR boundsV ownP sliceW copyV clearV lenM takeV tk1 mapsV mkMapV hintOk lookV updV mapKE keyOk V.key app_lend callW_fn lendV postL_ret postL_normal postT_ret postT_normal takeR St.lent mkX_L bin_eql_vz bin_eql_zv bin_eql_rz bin_eql_zr bin_eql_zz bin_neq_vz bin_neq_zv bin_neq_rz bin_neq_zr bin_neq_zz eqH nilEq nonE plainI gOf_bool gOf_skip g_some g_none Int.ofNat_zero Int.cast_ofNat_Int Bool.false_and Bool.and_false sliceV noBox elemsZ V.scrub V.scrubL Blk.scrub appendV isSlice maxLen_eq leT List.contains_nil List.contains_cons nvL_at fzL_at fillV V.plain V.plainL Blk.plain List.size_toArray mapO_nil mapO_cons Option.isNone_none Option.isNone_some beqT beqF oI_not mkX_e phi_nil phi_cons bin_eql_bool bin_neq_bool bin_eql_agg bin_neq_agg eqV eqFs eqK_int eqK_bool' eqK_str mkX_T mkX_Φ mkX_n mkX_f mkX_d mkX_r nv0_at fz0_at evQ_dr evP_W evW_nil evW_cons evW_guard okW_eq tame_none tame_new tame_write wb_none wb_new wb_write okU_some offW_none offW_some touchOf V.noRef V.noRefL Option.isSome_some Option.isSome_none mild_none mild_new Option.getD_some Option.getD_none evQ_seq evQ_region evQ_block evQ_cond evQ_ret evQ_skip evQ_exit evO_cons evO_nil evO_guard freezeL_nil oS_some oS_none oS_ite oS_ite' oB_bool oI_true oI_false oE_normal oE_exit oE_ret bQ_normal bQ_ret bQ_exit lQ_normal lQ_ret lQ_exit List.zipIdx_cons List.zipIdx_nil List.map_cons List.map_nil evalOp opd_const opd_tmp opd_func ofC_int ofC_bool ofC_str ofC_nil app_none app_new app_write app_change putE_some putE_none setA_cons setA_nil setH_cons setH_nil mapA_cons mapA_nil look_cons look_nil e_mk h_mk drop_nil drop_mk keep_mk dstOk_some dstOk_none guardT_eq true_and and_true Bool.not_false Bool.not_true selB_true selB_false mem_nil mem_cons kpL_nil kpL_cons drL_nil drL_cons closed_mk V.refsIn V.refsInL Blk.refsIn List.all_cons List.all_nil lenV bin_add bin_sub bin_mul bin_quo bin_rem bin_eql bin_neq bin_lss bin_leq bin_gtr bin_geq un_neg un_not post_ret post_normal St.init Bool.false_eq_true List.length_map Bool.or_false Bool.or_true Bool.false_or Bool.true_or beq_self_eq_true Option.map_some Option.map_none Option.bind_some List.getElem?_cons_zero List.getElem?_cons_succ scalar stor isAggV V.cells List.cons_append List.nil_append if_true if_false wrap_of callV V.dataL V.data Bool.and_true Bool.true_and fresh names V.ren V.renL retV resV packL packV packC getBlks wrapR subV putV decide_true decide_false TK.agg List.length_cons List.length_nil List.take_succ_cons List.take_zero List.drop_succ_cons List.drop_zero List.take_nil List.drop_nil Nat.zero_add Nat.add_zero List.append_nil List.getElem?_nil elemsV ro ro0 ro1 roC ty2 ty3 ty4 ty5 ty6 ty7 ty8 ty9 ty10 ty11 ty12 ty13 ty14 ty18 ty19 ty21 ty24 ty25 ty33 ty34 ty35 ty36 ty41 ty42 ty43 ty45 ty46 ty53 ty63 ty64 ty69 ty74 ty77 ty78 ty96 ty98 ty108 ty115 ty142 ty143 ty148 ty149 ty152 ty153 ty154 ty155 eqs46 eqs64 eqs78
set_option maxHeartbeats 8000000 in
set_option maxRecDepth 100000 in
theorem age_errA {J : World → Prop} (hJ : Stable J) (l : List It) (a today : Int) (b : List Int) (e : itE l = 0) (hf : agesE l today b ≠ 0) (a1 : ¬ a < 0) (a2 : ¬ 1000000000000 < a) : SoundAt Try.prog J 6 [.row 2 (l.map itV), .int .i64 a, .int .i64 today, .row 1 (b.map (V.int .i64))] (.bool true) [] := by
  refine SoundAt.row 3 rfl (callOk Try.func6 rfl rfl) fun hlen => ?_
  simp only [maxLen, List.length_map] at hlen
  obtain ⟨IF, hIF, sIF⟩ := ritemsx hJ
  obtain ⟨CF, hCF, sCF⟩ := achkx hJ
  obtain ⟨RF, hRF, sRF⟩ := rpayx hJ l a e
  have hI := hIF l
  have hC := hCF l
  have hC0 : CF [.row 2 [.agg [.int .i64 0, .int .i64 0]]] = some (.int .i64 1, []) := hCF [(0, 0)]
  rw [e] at hI hC
  have hP := pay_sound hJ l a
  have hA := ages_sound hJ l today b
  have hQ := eqT_sound hJ (payL l a) (payL l a)
  rw [decide_eq_true rfl] at hQ
  have hE : payE l a = 0 := by unfold payE; rw [if_pos e, if_pos (by omega)]
  rw [hE, if_pos rfl] at hP
  have hR := hRF hE
  have hV : agesV l today b = (.tup [.zero, .int .i64 (agesE l today b)], []) := if_neg hf
  rw [hV] at hA
  rw [agesE_eq e] at hA hf
  refine evFn (l := [(27, at1 _ (_, [])), (28, at1 _ (_, [])), (23, IF), (29, CF), (30, RF), (31, at1 _ (_, [])), (24, isTF), (25, eqIF)]) (nv := nv0) (fz := fz0) (dr := dr6) (dd := dd6) (lam := []) ⟨at1_snd hP, at1_snd hA, sIF, sCF, sRF, at1_snd hQ, tday_snd hJ, eqI_snd hJ, trivial⟩ hJ trivial Try.func6 rfl rfl (Nat.le_of_ble_eq_true rfl) (Nat.le_of_ble_eq_true rfl) drOk6 ?_
  dsimp only [Try.f6, dr6, dd6, Option.getD_some]
  refine ev_start ?_
  have hcase : ((0 ≤ today ∧ today ≤ 292193) ∧ b.length ≤ 40) ∨ ((0 ≤ today ∧ today ≤ 292193) ∧ 40 < b.length) ∨ ¬ (0 ≤ today ∧ today ≤ 292193) := by omega
  rcases hcase with ⟨ht, h4⟩ | ⟨ht, h4⟩ | ht
  · have h4' : ¬ (40 : Int) < b.length := by omega
    simp (maxSteps := 1000000) (disch := omega) only [hC, hC0, hI, at1_eq, a1, a2, hR, isTF_eq, ht, and_self, h4', List.length_map, go_sem, Int.reduceEq, Int.reduceLT, Int.reduceLE, Int.reduceNeg, Nat.reduceAdd, Nat.reduceLT, Nat.reduceEqDiff, Nat.reduceMul, Nat.reduceLeDiff, reduceIte, Nat.reduceBEq, reduceCtorEq, evP_D, evD_guard, evD_cons, evD_zero, evD_nil]
    refine evQ_loop [0, 2, 3, 12, 13, 14, 115, 116, 117] [] (fun σ => ∃ (k : Nat), k ≤ b.length ∧ σ = ⟨[(0, .row 2 (l.map itV)), (2, .int .i64 today), (3, .row 1 (b.map (V.int .i64))), (12, .zero), (13, .int .i64 (bdF (w0 today b) b b.length)), (14, .int .i64 (bdF (w0 today b) b k)), (115, .row 1 (b.map (V.int .i64))), (116, .int .i64 b.length), (117, .int .i64 k)], []⟩)
      (fun σ => b.length - (match Ev.look 117 σ.env with | some (.int _ n) => n.toNat | _ => 0)) ?_ ?_
    · simp only [go_sem, Int.reduceEq, Int.reduceLT, Int.reduceLE, Int.reduceNeg, Nat.reduceAdd, Nat.reduceLT, Nat.reduceEqDiff, Nat.reduceMul, Nat.reduceLeDiff, reduceIte, Nat.reduceBEq, reduceCtorEq, evP_D, evD_guard, evD_cons, evD_zero, evD_nil]
      exact ⟨0, Nat.zero_le _, by rw [bdF, w0_ok ht (by omega)]; rfl⟩
    · clear hP hA hQ
      rintro σ ⟨k, hk, rfl⟩
      by_cases hlt : k < b.length
      · have hlt' : (k : Int) < b.length := by omega
        have hg := int_get hlt
        have hms : b.length - ((k : Int) + 1).toNat < b.length - (k : Int).toNat := by
          have e3 : ((k : Int) + 1).toNat = k + 1 := by omega
          rw [e3, Int.toNat_natCast]; omega
        have hstep : bdF (w0 today b) b (k + 1) = bdStep b (bdF (w0 today b) b k) k := rfl
        obtain ⟨wk, hwk⟩ : ∃ wk, wk = bdF (w0 today b) b k := ⟨_, rfl⟩
        rw [← hwk] at hstep ⊢
        by_cases hw : wk = 0
        · rw [hw] at hstep ⊢
          by_cases hd : 0 ≤ b.getD k 0 ∧ b.getD k 0 ≤ 292193
          · cases k with
            | zero =>
              have z0 : ((0 : Nat) : Int) = 0 := rfl
              have h0 : ¬ (0 : Int) < 0 := by omega
              have hst : bdStep b 0 0 = 0 := by unfold bdStep; rw [if_pos rfl, if_pos hd, if_neg (by omega)]
              rw [z0] at hlt' ⊢
              have hi0 : idx b.length 0 = some 0 := by
                have := idx_nat _ _ hlt
                rwa [z0] at this
              simp (disch := (first | omega | assumption)) only [hlt', hi0, List.length_map, hg, isTF_eq, hd, and_self, h0, go_sem, Int.reduceEq, Int.reduceLT, Int.reduceLE, Int.reduceNeg, Nat.reduceAdd, Nat.reduceLT, Nat.reduceEqDiff, Nat.reduceMul, Nat.reduceLeDiff, reduceIte, Nat.reduceBEq, reduceCtorEq, evP_D, evD_guard, evD_cons, evD_zero, evD_nil]
              exact ⟨⟨1, hlt, by rw [hstep, hst]; rfl⟩, hms⟩
            | succ m =>
              have e1 : ((m + 1 : Nat) : Int) = (m : Int) + 1 := by omega
              have e2 : (m : Int) + 1 - 1 = m := by omega
              have e4 : (m : Int) + 1 = ((m + 1 : Nat) : Int) := by omega
              have h0 : (0 : Int) < (m : Int) + 1 := by omega
              have hgm := int_get (show m < b.length by omega)
              have hlm : m < b.length := by omega
              have hidx : idx b.length ((m : Int) + 1) = some (m + 1) := by rw [e4]; exact idx_nat _ _ hlt
              rw [e1] at hlt' hms ⊢
              by_cases hc : b.getD (m + 1) 0 ≤ b.getD m 0
              · have hst : bdStep b 0 (m + 1) = 3 := by unfold bdStep; rw [if_pos rfl, if_pos hd, if_pos ⟨by omega, by rw [Nat.add_sub_cancel]; exact hc⟩]
                simp (disch := (first | omega | assumption)) only [hlt', hidx, idx_nat, List.length_map, hg, hgm, isTF_eq, hd, and_self, h0, e2, hc, go_sem, Int.reduceEq, Int.reduceLT, Int.reduceLE, Int.reduceNeg, Nat.reduceAdd, Nat.reduceLT, Nat.reduceEqDiff, Nat.reduceMul, Nat.reduceLeDiff, reduceIte, Nat.reduceBEq, reduceCtorEq, evP_D, evD_guard, evD_cons, evD_zero, evD_nil]
                exact ⟨⟨m + 1 + 1, hlt, by rw [hstep, hst]; rfl⟩, hms⟩
              · have hst : bdStep b 0 (m + 1) = 0 := by unfold bdStep; rw [if_pos rfl, if_pos hd, if_neg (by rw [Nat.add_sub_cancel]; rintro ⟨_, h⟩; exact hc h)]
                simp (disch := (first | omega | assumption)) only [hlt', hidx, idx_nat, List.length_map, hg, hgm, isTF_eq, hd, and_self, h0, e2, hc, go_sem, Int.reduceEq, Int.reduceLT, Int.reduceLE, Int.reduceNeg, Nat.reduceAdd, Nat.reduceLT, Nat.reduceEqDiff, Nat.reduceMul, Nat.reduceLeDiff, reduceIte, Nat.reduceBEq, reduceCtorEq, evP_D, evD_guard, evD_cons, evD_zero, evD_nil]
                exact ⟨⟨m + 1 + 1, hlt, by rw [hstep, hst]; rfl⟩, hms⟩
          · have hst : bdStep b 0 k = 1 := by unfold bdStep; rw [if_pos rfl, if_neg hd]
            have hd' : decide (0 ≤ b.getD k 0 ∧ b.getD k 0 ≤ 292193) = false := decide_eq_false hd
            simp (disch := (first | omega | assumption)) only [hlt', idx_nat, List.length_map, hg, isTF_eq, hd', go_sem, Int.reduceEq, Int.reduceLT, Int.reduceLE, Int.reduceNeg, Nat.reduceAdd, Nat.reduceLT, Nat.reduceEqDiff, Nat.reduceMul, Nat.reduceLeDiff, reduceIte, Nat.reduceBEq, reduceCtorEq, evP_D, evD_guard, evD_cons, evD_zero, evD_nil]
            exact ⟨⟨k + 1, hlt, by rw [hstep, hst]; rfl⟩, hms⟩
        · have hst : bdStep b wk k = wk := by unfold bdStep; rw [if_neg hw]
          simp (disch := (first | omega | assumption)) only [hlt', idx_nat, List.length_map, hg, isTF_eq, hw, go_sem, Int.reduceEq, Int.reduceLT, Int.reduceLE, Int.reduceNeg, Nat.reduceAdd, Nat.reduceLT, Nat.reduceEqDiff, Nat.reduceMul, Nat.reduceLeDiff, reduceIte, Nat.reduceBEq, reduceCtorEq, evP_D, evD_guard, evD_cons, evD_zero, evD_nil]
          exact ⟨⟨k + 1, hlt, by rw [hstep, hst]; rfl⟩, hms⟩
      · have hk' : k = b.length := by omega
        subst hk'
        have hlt' : ¬ ((b.length : Int) < b.length) := by omega
        simp (disch := (first | omega | assumption)) only [hlt', hf, go_sem, Int.reduceEq, Int.reduceLT, Int.reduceLE, Int.reduceNeg, Nat.reduceAdd, Nat.reduceLT, Nat.reduceEqDiff, Nat.reduceMul, Nat.reduceLeDiff, reduceIte, Nat.reduceBEq, reduceCtorEq, evP_D, evD_guard, evD_cons, evD_zero, evD_nil]
  · have h4' : (40 : Int) < b.length := by omega
    simp (maxSteps := 1000000) (disch := omega) only [hC, hC0, hI, at1_eq, a1, a2, hR, isTF_eq, ht, and_self, h4', List.length_map, go_sem, Int.reduceEq, Int.reduceLT, Int.reduceLE, Int.reduceNeg, Nat.reduceAdd, Nat.reduceLT, Nat.reduceEqDiff, Nat.reduceMul, Nat.reduceLeDiff, reduceIte, Nat.reduceBEq, reduceCtorEq, evP_D, evD_guard, evD_cons, evD_zero, evD_nil]
    refine evQ_loop [0, 2, 3, 12, 13, 14, 115, 116, 117] [] (fun σ => ∃ (k : Nat), k ≤ b.length ∧ σ = ⟨[(0, .row 2 (l.map itV)), (2, .int .i64 today), (3, .row 1 (b.map (V.int .i64))), (12, .zero), (13, .int .i64 (bdF (w0 today b) b b.length)), (14, .int .i64 (bdF (w0 today b) b k)), (115, .row 1 (b.map (V.int .i64))), (116, .int .i64 b.length), (117, .int .i64 k)], []⟩)
      (fun σ => b.length - (match Ev.look 117 σ.env with | some (.int _ n) => n.toNat | _ => 0)) ?_ ?_
    · simp only [go_sem, Int.reduceEq, Int.reduceLT, Int.reduceLE, Int.reduceNeg, Nat.reduceAdd, Nat.reduceLT, Nat.reduceEqDiff, Nat.reduceMul, Nat.reduceLeDiff, reduceIte, Nat.reduceBEq, reduceCtorEq, evP_D, evD_guard, evD_cons, evD_zero, evD_nil]
      exact ⟨0, Nat.zero_le _, by rw [bdF, w0_large ht h4]; rfl⟩
    · clear hP hA hQ
      rintro σ ⟨k, hk, rfl⟩
      by_cases hlt : k < b.length
      · have hlt' : (k : Int) < b.length := by omega
        have hg := int_get hlt
        have hms : b.length - ((k : Int) + 1).toNat < b.length - (k : Int).toNat := by
          have e3 : ((k : Int) + 1).toNat = k + 1 := by omega
          rw [e3, Int.toNat_natCast]; omega
        have hstep : bdF (w0 today b) b (k + 1) = bdStep b (bdF (w0 today b) b k) k := rfl
        obtain ⟨wk, hwk⟩ : ∃ wk, wk = bdF (w0 today b) b k := ⟨_, rfl⟩
        rw [← hwk] at hstep ⊢
        by_cases hw : wk = 0
        · rw [hw] at hstep ⊢
          by_cases hd : 0 ≤ b.getD k 0 ∧ b.getD k 0 ≤ 292193
          · cases k with
            | zero =>
              have z0 : ((0 : Nat) : Int) = 0 := rfl
              have h0 : ¬ (0 : Int) < 0 := by omega
              have hst : bdStep b 0 0 = 0 := by unfold bdStep; rw [if_pos rfl, if_pos hd, if_neg (by omega)]
              rw [z0] at hlt' ⊢
              have hi0 : idx b.length 0 = some 0 := by
                have := idx_nat _ _ hlt
                rwa [z0] at this
              simp (disch := (first | omega | assumption)) only [hlt', hi0, List.length_map, hg, isTF_eq, hd, and_self, h0, go_sem, Int.reduceEq, Int.reduceLT, Int.reduceLE, Int.reduceNeg, Nat.reduceAdd, Nat.reduceLT, Nat.reduceEqDiff, Nat.reduceMul, Nat.reduceLeDiff, reduceIte, Nat.reduceBEq, reduceCtorEq, evP_D, evD_guard, evD_cons, evD_zero, evD_nil]
              exact ⟨⟨1, hlt, by rw [hstep, hst]; rfl⟩, hms⟩
            | succ m =>
              have e1 : ((m + 1 : Nat) : Int) = (m : Int) + 1 := by omega
              have e2 : (m : Int) + 1 - 1 = m := by omega
              have e4 : (m : Int) + 1 = ((m + 1 : Nat) : Int) := by omega
              have h0 : (0 : Int) < (m : Int) + 1 := by omega
              have hgm := int_get (show m < b.length by omega)
              have hlm : m < b.length := by omega
              have hidx : idx b.length ((m : Int) + 1) = some (m + 1) := by rw [e4]; exact idx_nat _ _ hlt
              rw [e1] at hlt' hms ⊢
              by_cases hc : b.getD (m + 1) 0 ≤ b.getD m 0
              · have hst : bdStep b 0 (m + 1) = 3 := by unfold bdStep; rw [if_pos rfl, if_pos hd, if_pos ⟨by omega, by rw [Nat.add_sub_cancel]; exact hc⟩]
                simp (disch := (first | omega | assumption)) only [hlt', hidx, idx_nat, List.length_map, hg, hgm, isTF_eq, hd, and_self, h0, e2, hc, go_sem, Int.reduceEq, Int.reduceLT, Int.reduceLE, Int.reduceNeg, Nat.reduceAdd, Nat.reduceLT, Nat.reduceEqDiff, Nat.reduceMul, Nat.reduceLeDiff, reduceIte, Nat.reduceBEq, reduceCtorEq, evP_D, evD_guard, evD_cons, evD_zero, evD_nil]
                exact ⟨⟨m + 1 + 1, hlt, by rw [hstep, hst]; rfl⟩, hms⟩
              · have hst : bdStep b 0 (m + 1) = 0 := by unfold bdStep; rw [if_pos rfl, if_pos hd, if_neg (by rw [Nat.add_sub_cancel]; rintro ⟨_, h⟩; exact hc h)]
                simp (disch := (first | omega | assumption)) only [hlt', hidx, idx_nat, List.length_map, hg, hgm, isTF_eq, hd, and_self, h0, e2, hc, go_sem, Int.reduceEq, Int.reduceLT, Int.reduceLE, Int.reduceNeg, Nat.reduceAdd, Nat.reduceLT, Nat.reduceEqDiff, Nat.reduceMul, Nat.reduceLeDiff, reduceIte, Nat.reduceBEq, reduceCtorEq, evP_D, evD_guard, evD_cons, evD_zero, evD_nil]
                exact ⟨⟨m + 1 + 1, hlt, by rw [hstep, hst]; rfl⟩, hms⟩
          · have hst : bdStep b 0 k = 1 := by unfold bdStep; rw [if_pos rfl, if_neg hd]
            have hd' : decide (0 ≤ b.getD k 0 ∧ b.getD k 0 ≤ 292193) = false := decide_eq_false hd
            simp (disch := (first | omega | assumption)) only [hlt', idx_nat, List.length_map, hg, isTF_eq, hd', go_sem, Int.reduceEq, Int.reduceLT, Int.reduceLE, Int.reduceNeg, Nat.reduceAdd, Nat.reduceLT, Nat.reduceEqDiff, Nat.reduceMul, Nat.reduceLeDiff, reduceIte, Nat.reduceBEq, reduceCtorEq, evP_D, evD_guard, evD_cons, evD_zero, evD_nil]
            exact ⟨⟨k + 1, hlt, by rw [hstep, hst]; rfl⟩, hms⟩
        · have hst : bdStep b wk k = wk := by unfold bdStep; rw [if_neg hw]
          simp (disch := (first | omega | assumption)) only [hlt', idx_nat, List.length_map, hg, isTF_eq, hw, go_sem, Int.reduceEq, Int.reduceLT, Int.reduceLE, Int.reduceNeg, Nat.reduceAdd, Nat.reduceLT, Nat.reduceEqDiff, Nat.reduceMul, Nat.reduceLeDiff, reduceIte, Nat.reduceBEq, reduceCtorEq, evP_D, evD_guard, evD_cons, evD_zero, evD_nil]
          exact ⟨⟨k + 1, hlt, by rw [hstep, hst]; rfl⟩, hms⟩
      · have hk' : k = b.length := by omega
        subst hk'
        have hlt' : ¬ ((b.length : Int) < b.length) := by omega
        simp (disch := (first | omega | assumption)) only [hlt', hf, go_sem, Int.reduceEq, Int.reduceLT, Int.reduceLE, Int.reduceNeg, Nat.reduceAdd, Nat.reduceLT, Nat.reduceEqDiff, Nat.reduceMul, Nat.reduceLeDiff, reduceIte, Nat.reduceBEq, reduceCtorEq, evP_D, evD_guard, evD_cons, evD_zero, evD_nil]
  · have ht' : decide (0 ≤ today ∧ today ≤ 292193) = false := decide_eq_false ht
    simp (maxSteps := 1000000) (disch := omega) only [hC, hC0, hI, at1_eq, a1, a2, hR, isTF_eq, ht', List.length_map, go_sem, Int.reduceEq, Int.reduceLT, Int.reduceLE, Int.reduceNeg, Nat.reduceAdd, Nat.reduceLT, Nat.reduceEqDiff, Nat.reduceMul, Nat.reduceLeDiff, reduceIte, Nat.reduceBEq, reduceCtorEq, evP_D, evD_guard, evD_cons, evD_zero, evD_nil]
    refine evQ_loop [0, 2, 3, 12, 13, 14, 115, 116, 117] [] (fun σ => ∃ (k : Nat), k ≤ b.length ∧ σ = ⟨[(0, .row 2 (l.map itV)), (2, .int .i64 today), (3, .row 1 (b.map (V.int .i64))), (12, .zero), (13, .int .i64 (bdF (w0 today b) b b.length)), (14, .int .i64 (bdF (w0 today b) b k)), (115, .row 1 (b.map (V.int .i64))), (116, .int .i64 b.length), (117, .int .i64 k)], []⟩)
      (fun σ => b.length - (match Ev.look 117 σ.env with | some (.int _ n) => n.toNat | _ => 0)) ?_ ?_
    · simp only [go_sem, Int.reduceEq, Int.reduceLT, Int.reduceLE, Int.reduceNeg, Nat.reduceAdd, Nat.reduceLT, Nat.reduceEqDiff, Nat.reduceMul, Nat.reduceLeDiff, reduceIte, Nat.reduceBEq, reduceCtorEq, evP_D, evD_guard, evD_cons, evD_zero, evD_nil]
      exact ⟨0, Nat.zero_le _, by rw [bdF, w0_day ht]; rfl⟩
    · clear hP hA hQ
      rintro σ ⟨k, hk, rfl⟩
      by_cases hlt : k < b.length
      · have hlt' : (k : Int) < b.length := by omega
        have hg := int_get hlt
        have hms : b.length - ((k : Int) + 1).toNat < b.length - (k : Int).toNat := by
          have e3 : ((k : Int) + 1).toNat = k + 1 := by omega
          rw [e3, Int.toNat_natCast]; omega
        have hstep : bdF (w0 today b) b (k + 1) = bdStep b (bdF (w0 today b) b k) k := rfl
        obtain ⟨wk, hwk⟩ : ∃ wk, wk = bdF (w0 today b) b k := ⟨_, rfl⟩
        rw [← hwk] at hstep ⊢
        by_cases hw : wk = 0
        · rw [hw] at hstep ⊢
          by_cases hd : 0 ≤ b.getD k 0 ∧ b.getD k 0 ≤ 292193
          · cases k with
            | zero =>
              have z0 : ((0 : Nat) : Int) = 0 := rfl
              have h0 : ¬ (0 : Int) < 0 := by omega
              have hst : bdStep b 0 0 = 0 := by unfold bdStep; rw [if_pos rfl, if_pos hd, if_neg (by omega)]
              rw [z0] at hlt' ⊢
              have hi0 : idx b.length 0 = some 0 := by
                have := idx_nat _ _ hlt
                rwa [z0] at this
              simp (disch := (first | omega | assumption)) only [hlt', hi0, List.length_map, hg, isTF_eq, hd, and_self, h0, go_sem, Int.reduceEq, Int.reduceLT, Int.reduceLE, Int.reduceNeg, Nat.reduceAdd, Nat.reduceLT, Nat.reduceEqDiff, Nat.reduceMul, Nat.reduceLeDiff, reduceIte, Nat.reduceBEq, reduceCtorEq, evP_D, evD_guard, evD_cons, evD_zero, evD_nil]
              exact ⟨⟨1, hlt, by rw [hstep, hst]; rfl⟩, hms⟩
            | succ m =>
              have e1 : ((m + 1 : Nat) : Int) = (m : Int) + 1 := by omega
              have e2 : (m : Int) + 1 - 1 = m := by omega
              have e4 : (m : Int) + 1 = ((m + 1 : Nat) : Int) := by omega
              have h0 : (0 : Int) < (m : Int) + 1 := by omega
              have hgm := int_get (show m < b.length by omega)
              have hlm : m < b.length := by omega
              have hidx : idx b.length ((m : Int) + 1) = some (m + 1) := by rw [e4]; exact idx_nat _ _ hlt
              rw [e1] at hlt' hms ⊢
              by_cases hc : b.getD (m + 1) 0 ≤ b.getD m 0
              · have hst : bdStep b 0 (m + 1) = 3 := by unfold bdStep; rw [if_pos rfl, if_pos hd, if_pos ⟨by omega, by rw [Nat.add_sub_cancel]; exact hc⟩]
                simp (disch := (first | omega | assumption)) only [hlt', hidx, idx_nat, List.length_map, hg, hgm, isTF_eq, hd, and_self, h0, e2, hc, go_sem, Int.reduceEq, Int.reduceLT, Int.reduceLE, Int.reduceNeg, Nat.reduceAdd, Nat.reduceLT, Nat.reduceEqDiff, Nat.reduceMul, Nat.reduceLeDiff, reduceIte, Nat.reduceBEq, reduceCtorEq, evP_D, evD_guard, evD_cons, evD_zero, evD_nil]
                exact ⟨⟨m + 1 + 1, hlt, by rw [hstep, hst]; rfl⟩, hms⟩
              · have hst : bdStep b 0 (m + 1) = 0 := by unfold bdStep; rw [if_pos rfl, if_pos hd, if_neg (by rw [Nat.add_sub_cancel]; rintro ⟨_, h⟩; exact hc h)]
                simp (disch := (first | omega | assumption)) only [hlt', hidx, idx_nat, List.length_map, hg, hgm, isTF_eq, hd, and_self, h0, e2, hc, go_sem, Int.reduceEq, Int.reduceLT, Int.reduceLE, Int.reduceNeg, Nat.reduceAdd, Nat.reduceLT, Nat.reduceEqDiff, Nat.reduceMul, Nat.reduceLeDiff, reduceIte, Nat.reduceBEq, reduceCtorEq, evP_D, evD_guard, evD_cons, evD_zero, evD_nil]
                exact ⟨⟨m + 1 + 1, hlt, by rw [hstep, hst]; rfl⟩, hms⟩
          · have hst : bdStep b 0 k = 1 := by unfold bdStep; rw [if_pos rfl, if_neg hd]
            have hd' : decide (0 ≤ b.getD k 0 ∧ b.getD k 0 ≤ 292193) = false := decide_eq_false hd
            simp (disch := (first | omega | assumption)) only [hlt', idx_nat, List.length_map, hg, isTF_eq, hd', go_sem, Int.reduceEq, Int.reduceLT, Int.reduceLE, Int.reduceNeg, Nat.reduceAdd, Nat.reduceLT, Nat.reduceEqDiff, Nat.reduceMul, Nat.reduceLeDiff, reduceIte, Nat.reduceBEq, reduceCtorEq, evP_D, evD_guard, evD_cons, evD_zero, evD_nil]
            exact ⟨⟨k + 1, hlt, by rw [hstep, hst]; rfl⟩, hms⟩
        · have hst : bdStep b wk k = wk := by unfold bdStep; rw [if_neg hw]
          simp (disch := (first | omega | assumption)) only [hlt', idx_nat, List.length_map, hg, isTF_eq, hw, go_sem, Int.reduceEq, Int.reduceLT, Int.reduceLE, Int.reduceNeg, Nat.reduceAdd, Nat.reduceLT, Nat.reduceEqDiff, Nat.reduceMul, Nat.reduceLeDiff, reduceIte, Nat.reduceBEq, reduceCtorEq, evP_D, evD_guard, evD_cons, evD_zero, evD_nil]
          exact ⟨⟨k + 1, hlt, by rw [hstep, hst]; rfl⟩, hms⟩
      · have hk' : k = b.length := by omega
        subst hk'
        have hlt' : ¬ ((b.length : Int) < b.length) := by omega
        simp (disch := (first | omega | assumption)) only [hlt', hf, go_sem, Int.reduceEq, Int.reduceLT, Int.reduceLE, Int.reduceNeg, Nat.reduceAdd, Nat.reduceLT, Nat.reduceEqDiff, Nat.reduceMul, Nat.reduceLeDiff, reduceIte, Nat.reduceBEq, reduceCtorEq, evP_D, evD_guard, evD_cons, evD_zero, evD_nil]
set_option maxHeartbeats 8000000 in
set_option maxRecDepth 100000 in
theorem age_okA {J : World → Prop} (hJ : Stable J) (l : List It) (a today : Int) (b : List Int) (e : itE l = 0) (hf : agesE l today b = 0) (a1 : ¬ a < 0) (a2 : ¬ 1000000000000 < a) : SoundAt Try.prog J 6 [.row 2 (l.map itV), .int .i64 a, .int .i64 today, .row 1 (b.map (V.int .i64))] (.bool true) [] := by
  refine SoundAt.row 3 rfl (callOk Try.func6 rfl rfl) fun hlen => ?_
  simp only [maxLen, List.length_map] at hlen
  obtain ⟨IF, hIF, sIF⟩ := ritemsx hJ
  obtain ⟨CF, hCF, sCF⟩ := achkx hJ
  obtain ⟨RF, hRF, sRF⟩ := rpayx hJ l a e
  have hI := hIF l
  have hC := hCF l
  have hC0 : CF [.row 2 [.agg [.int .i64 0, .int .i64 0]]] = some (.int .i64 1, []) := hCF [(0, 0)]
  rw [e] at hI hC
  have hP := pay_sound hJ l a
  have hA := ages_sound hJ l today b
  have hQ := eqT_sound hJ (payL l a) (payL l a)
  rw [decide_eq_true rfl] at hQ
  have hE : payE l a = 0 := by unfold payE; rw [if_pos e, if_pos (by omega)]
  rw [hE, if_pos rfl] at hP
  have hR := hRF hE
  have hV : agesV l today b = (.tup [.vec 0, .int .i64 0], [.vec 3 1 ((agL b today l l.length).map (V.int .i64))]) := if_pos hf
  rw [hV] at hA
  rw [agesE_eq e] at hf
  refine evFn (l := [(27, at1 _ (_, [])), (28, at1 _ (_, [.vec 3 1 ((agL b today l l.length).map (V.int .i64))])), (23, IF), (29, CF), (30, RF), (31, at1 _ (_, [])), (24, isTF), (25, eqIF)]) (nv := nv0) (fz := fz0) (dr := dr6) (dd := dd6) (lam := []) ⟨at1_snd hP, at1_snd hA, sIF, sCF, sRF, at1_snd hQ, tday_snd hJ, eqI_snd hJ, trivial⟩ hJ trivial Try.func6 rfl rfl (Nat.le_of_ble_eq_true rfl) (Nat.le_of_ble_eq_true rfl) drOk6 ?_
  dsimp only [Try.f6, dr6, dd6, Option.getD_some]
  refine ev_start ?_
  have hcase : ((0 ≤ today ∧ today ≤ 292193) ∧ b.length ≤ 40) ∨ ((0 ≤ today ∧ today ≤ 292193) ∧ 40 < b.length) ∨ ¬ (0 ≤ today ∧ today ≤ 292193) := by omega
  have wz : w0 today b = 0 := bdF_pre (k := 0) (Nat.zero_le _) hf
  have hcase : (0 ≤ today ∧ today ≤ 292193) ∧ b.length ≤ 40 := by
    unfold w0 at wz
    split at wz
    · split at wz
      · omega
      · omega
    · omega
  obtain ⟨ht, h4⟩ := hcase
  have h4' : ¬ (40 : Int) < b.length := by omega
  simp (maxSteps := 1000000) (disch := omega) only [hC, hC0, hI, at1_eq, a1, a2, hR, isTF_eq, ht, and_self, h4', List.length_map, go_sem, Int.reduceEq, Int.reduceLT, Int.reduceLE, Int.reduceNeg, Nat.reduceAdd, Nat.reduceLT, Nat.reduceEqDiff, Nat.reduceMul, Nat.reduceLeDiff, reduceIte, Nat.reduceBEq, reduceCtorEq, evP_D, evD_guard, evD_cons, evD_zero, evD_nil]
  refine evQ_loop [0, 2, 3, 12, 13, 14, 115, 116, 117] [272] (fun σ => ∃ (k : Nat), k ≤ b.length ∧ σ = ⟨[(0, .row 2 (l.map itV)), (2, .int .i64 today), (3, .row 1 (b.map (V.int .i64))), (12, .vec 272), (13, .int .i64 0), (14, .int .i64 (bdF (w0 today b) b k)), (115, .row 1 (b.map (V.int .i64))), (116, .int .i64 b.length), (117, .int .i64 k)], [(272, .vec 3 1 ((agL b today l l.length).map (V.int .i64)))]⟩)
    (fun σ => b.length - (match Ev.look 117 σ.env with | some (.int _ n) => n.toNat | _ => 0)) ?_ ?_
  · simp only [go_sem, Int.reduceEq, Int.reduceLT, Int.reduceLE, Int.reduceNeg, Nat.reduceAdd, Nat.reduceLT, Nat.reduceEqDiff, Nat.reduceMul, Nat.reduceLeDiff, reduceIte, Nat.reduceBEq, reduceCtorEq, evP_D, evD_guard, evD_cons, evD_zero, evD_nil]
    exact ⟨0, Nat.zero_le _, by rw [bdF, wz]; rfl⟩
  · clear hP hA hQ
    rintro σ ⟨k, hk, rfl⟩
    by_cases hlt : k < b.length
    · have hlt' : (k : Int) < b.length := by omega
      have hg := int_get hlt
      have hms : b.length - ((k : Int) + 1).toNat < b.length - (k : Int).toNat := by
        have e3 : ((k : Int) + 1).toNat = k + 1 := by omega
        rw [e3, Int.toNat_natCast]; omega
      have hstep : bdF (w0 today b) b (k + 1) = bdStep b (bdF (w0 today b) b k) k := rfl
      obtain ⟨wk, hwk⟩ : ∃ wk, wk = bdF (w0 today b) b k := ⟨_, rfl⟩
      rw [← hwk] at hstep ⊢
      by_cases hw : wk = 0
      · rw [hw] at hstep ⊢
        by_cases hd : 0 ≤ b.getD k 0 ∧ b.getD k 0 ≤ 292193
        · cases k with
          | zero =>
            have z0 : ((0 : Nat) : Int) = 0 := rfl
            have h0 : ¬ (0 : Int) < 0 := by omega
            have hst : bdStep b 0 0 = 0 := by unfold bdStep; rw [if_pos rfl, if_pos hd, if_neg (by omega)]
            rw [z0] at hlt' ⊢
            have hi0 : idx b.length 0 = some 0 := by
              have := idx_nat _ _ hlt
              rwa [z0] at this
            simp (disch := (first | omega | assumption)) only [hlt', hi0, List.length_map, hg, isTF_eq, hd, and_self, h0, go_sem, Int.reduceEq, Int.reduceLT, Int.reduceLE, Int.reduceNeg, Nat.reduceAdd, Nat.reduceLT, Nat.reduceEqDiff, Nat.reduceMul, Nat.reduceLeDiff, reduceIte, Nat.reduceBEq, reduceCtorEq, evP_D, evD_guard, evD_cons, evD_zero, evD_nil]
            exact ⟨⟨1, hlt, by rw [hstep, hst]; rfl⟩, hms⟩
          | succ m =>
            have e1 : ((m + 1 : Nat) : Int) = (m : Int) + 1 := by omega
            have e2 : (m : Int) + 1 - 1 = m := by omega
            have e4 : (m : Int) + 1 = ((m + 1 : Nat) : Int) := by omega
            have h0 : (0 : Int) < (m : Int) + 1 := by omega
            have hgm := int_get (show m < b.length by omega)
            have hlm : m < b.length := by omega
            have hidx : idx b.length ((m : Int) + 1) = some (m + 1) := by rw [e4]; exact idx_nat _ _ hlt
            rw [e1] at hlt' hms ⊢
            by_cases hc : b.getD (m + 1) 0 ≤ b.getD m 0
            · have hst : bdStep b 0 (m + 1) = 3 := by unfold bdStep; rw [if_pos rfl, if_pos hd, if_pos ⟨by omega, by rw [Nat.add_sub_cancel]; exact hc⟩]
              simp (disch := (first | omega | assumption)) only [hlt', hidx, idx_nat, List.length_map, hg, hgm, isTF_eq, hd, and_self, h0, e2, hc, go_sem, Int.reduceEq, Int.reduceLT, Int.reduceLE, Int.reduceNeg, Nat.reduceAdd, Nat.reduceLT, Nat.reduceEqDiff, Nat.reduceMul, Nat.reduceLeDiff, reduceIte, Nat.reduceBEq, reduceCtorEq, evP_D, evD_guard, evD_cons, evD_zero, evD_nil]
              exact ⟨⟨m + 1 + 1, hlt, by rw [hstep, hst]; rfl⟩, hms⟩
            · have hst : bdStep b 0 (m + 1) = 0 := by unfold bdStep; rw [if_pos rfl, if_pos hd, if_neg (by rw [Nat.add_sub_cancel]; rintro ⟨_, h⟩; exact hc h)]
              simp (disch := (first | omega | assumption)) only [hlt', hidx, idx_nat, List.length_map, hg, hgm, isTF_eq, hd, and_self, h0, e2, hc, go_sem, Int.reduceEq, Int.reduceLT, Int.reduceLE, Int.reduceNeg, Nat.reduceAdd, Nat.reduceLT, Nat.reduceEqDiff, Nat.reduceMul, Nat.reduceLeDiff, reduceIte, Nat.reduceBEq, reduceCtorEq, evP_D, evD_guard, evD_cons, evD_zero, evD_nil]
              exact ⟨⟨m + 1 + 1, hlt, by rw [hstep, hst]; rfl⟩, hms⟩
        · have hst : bdStep b 0 k = 1 := by unfold bdStep; rw [if_pos rfl, if_neg hd]
          have hd' : decide (0 ≤ b.getD k 0 ∧ b.getD k 0 ≤ 292193) = false := decide_eq_false hd
          simp (disch := (first | omega | assumption)) only [hlt', idx_nat, List.length_map, hg, isTF_eq, hd', go_sem, Int.reduceEq, Int.reduceLT, Int.reduceLE, Int.reduceNeg, Nat.reduceAdd, Nat.reduceLT, Nat.reduceEqDiff, Nat.reduceMul, Nat.reduceLeDiff, reduceIte, Nat.reduceBEq, reduceCtorEq, evP_D, evD_guard, evD_cons, evD_zero, evD_nil]
          exact ⟨⟨k + 1, hlt, by rw [hstep, hst]; rfl⟩, hms⟩
      · have hst : bdStep b wk k = wk := by unfold bdStep; rw [if_neg hw]
        simp (disch := (first | omega | assumption)) only [hlt', idx_nat, List.length_map, hg, isTF_eq, hw, go_sem, Int.reduceEq, Int.reduceLT, Int.reduceLE, Int.reduceNeg, Nat.reduceAdd, Nat.reduceLT, Nat.reduceEqDiff, Nat.reduceMul, Nat.reduceLeDiff, reduceIte, Nat.reduceBEq, reduceCtorEq, evP_D, evD_guard, evD_cons, evD_zero, evD_nil]
        exact ⟨⟨k + 1, hlt, by rw [hstep, hst]; rfl⟩, hms⟩
    · have hk' : k = b.length := by omega
      subst hk'
      have hlt' : ¬ ((b.length : Int) < b.length) := by omega
      have hpre := hf
      have w00 : w0 today b = 0 := bdF_pre (k := 0) (Nat.zero_le _) hpre
      rw [w00] at hpre
      have hb4 : b.length ≤ 40 := by
        unfold w0 at w00
        split at w00
        · split at w00
          · omega
          · omega
        · omega
      have hok := itE_0 e
      have h40 := hok.1
      have ht : 0 ≤ today ∧ today ≤ 292193 := by
        unfold w0 at w00
        split at w00
        · assumption
        · omega
      have f1 : (0 : Int) ≤ (b.length : Int) + 1 := by omega
      have f2 : ((b.length : Int) + 1) * 8 ≤ 140737488355328 := by omega
      have f3 : (b.length : Int) + 1 ≤ 9223372036854775807 := by omega
      have f4 : ((b.length : Int) + 1).toNat = b.length + 1 := by omega
      have lA := agL_len b today l l.length (Nat.le_refl _)
      simp (disch := (first | omega | assumption)) only [hlt', hf, makeV, f1, f2, f3, f4, List.length_replicate, List.length_map, go_sem, Int.reduceEq, Int.reduceLT, Int.reduceLE, Int.reduceNeg, Nat.reduceAdd, Nat.reduceLT, Nat.reduceEqDiff, Nat.reduceMul, Nat.reduceLeDiff, reduceIte, Nat.reduceBEq, reduceCtorEq, evP_D, evD_guard, evD_cons, evD_zero, evD_nil]
      generalize hAA : agL b today l l.length = AA at lA ⊢
      refine evQ_loop [2, 3, 12, 13, 19, 159, 160, 161] [272, 1264] (fun σ => ∃ (k : Nat), k ≤ l.length ∧ σ = ⟨[(2, .int .i64 today), (3, .row 1 (b.map (V.int .i64))), (12, .vec 272), (13, .int .i64 0), (19, .vec 1264), (159, .row 2 (l.map itV)), (160, .int .i64 l.length), (161, .int .i64 k)],
          [(272, .vec 3 1 (AA.map (V.int .i64))), (1264, .vec 3 1 ((agL b today l k).map (V.int .i64)))]⟩)
        (fun σ => l.length - (match Ev.look 161 σ.env with | some (.int _ n) => n.toNat | _ => 0)) ?_ ?_
      · simp only [go_sem, Int.reduceEq, Int.reduceLT, Int.reduceLE, Int.reduceNeg, Nat.reduceAdd, Nat.reduceLT, Nat.reduceEqDiff, Nat.reduceMul, Nat.reduceLeDiff, reduceIte, Nat.reduceBEq, reduceCtorEq, evP_D, evD_guard, evD_cons, evD_zero, evD_nil]
        exact ⟨0, Nat.zero_le _, by rw [agL_zero, List.map_replicate]; rfl⟩
      · rintro σ ⟨k, hk, rfl⟩
        by_cases hkl : k < l.length
        · have hkl' : (k : Int) < l.length := by omega
          have hit := itV_get hkl
          have bi := it_bd hok hkl
          have hal := agL_len b today l k hk
          have hms : l.length - ((k : Int) + 1).toNat < l.length - (k : Int).toNat := by
            have e3 : ((k : Int) + 1).toNat = k + 1 := by omega
            rw [e3, Int.toNat_natCast]; omega
          simp (disch := (first | omega | assumption)) only [hkl', idx_nat, List.length_map, hit, go_sem, Int.reduceEq, Int.reduceLT, Int.reduceLE, Int.reduceNeg, Nat.reduceAdd, Nat.reduceLT, Nat.reduceEqDiff, Nat.reduceMul, Nat.reduceLeDiff, reduceIte, Nat.reduceBEq, reduceCtorEq, evP_D, evD_guard, evD_cons, evD_zero, evD_nil]
          refine evQ_loop [2, 3, 12, 13, 19, 21, 22, 159, 160, 161] [272, 1264, 168] (fun σ => ∃ (j : Nat), (j ≤ b.length ∧ ∀ i, i < j → b.getD i 0 < mx 0 (today - dy l k)) ∧ σ = ⟨[(2, .int .i64 today), (3, .row 1 (b.map (V.int .i64))), (12, .vec 272), (13, .int .i64 0), (19, .vec 1264), (21, .ptr 168 0), (22, .int .i64 j), (159, .row 2 (l.map itV)), (160, .int .i64 l.length), (161, .int .i64 k)],
              [(272, .vec 3 1 (AA.map (V.int .i64))), (1264, .vec 3 1 ((agL b today l k).map (V.int .i64))), (168, .box (.agg [.int .i64 (dy l k), .int .i64 (am l k)]))]⟩)
            (fun σ => b.length - (match Ev.look 22 σ.env with | some (.int _ n) => n.toNat | _ => 0)) ?_ ?_
          · simp only [go_sem, Int.reduceEq, Int.reduceLT, Int.reduceLE, Int.reduceNeg, Nat.reduceAdd, Nat.reduceLT, Nat.reduceEqDiff, Nat.reduceMul, Nat.reduceLeDiff, reduceIte, Nat.reduceBEq, reduceCtorEq, evP_D, evD_guard, evD_cons, evD_zero, evD_nil]
            exact ⟨0, ⟨Nat.zero_le _, fun i h => by omega⟩, rfl⟩
          · rintro σ ⟨j, ⟨hj, hall⟩, rfl⟩
            have hfin : (j < b.length → mx 0 (today - dy l k) ≤ b.getD j 0) → j = cnt b (mx 0 (today - dy l k)) := fun hstop => by
              refine (cnt_at hall (fun i h1 h2 => ?_) hj).symm
              have h3 := hstop (by omega)
              by_cases h4 : j = i
              · rw [← h4]; exact h3
              · have := bd_sorted hpre j i (by omega) h2
                omega
            have hga : j < b.length + 1 → ((agL b today l k).map (V.int .i64))[j]? = some (.int .i64 ((agL b today l k).getD j 0)) := fun h => int_get (by omega)
            have hga := hga (by omega)
            have hab := agL_bd (b := b) (today := today) hok k hk j
            have hset : (j < b.length → mx 0 (today - dy l k) ≤ b.getD j 0) → _ := fun h => ag_set (b := b) (today := today) (c := j) hkl (hfin h)
            have hmsj : b.length - ((j : Int) + 1).toNat < b.length - (j : Int).toNat ∨ b.length ≤ j := by
              have e3 : ((j : Int) + 1).toNat = j + 1 := by omega
              rw [e3, Int.toNat_natCast]; omega
            by_cases hjb : j < b.length
            · have hmsj := hmsj.resolve_right (by omega)
              have hjb' : (j : Int) < b.length := by omega
              have hgb := int_get hjb
              by_cases hpos : today - dy l k > 0
              · skip
                have em : mx 0 (today - dy l k) = today - dy l k := if_pos hpos
                by_cases hc : b.getD j 0 < today - dy l k
                · simp (disch := (first | omega | assumption)) only [hjb', idx_nat, List.length_map, hgb, hpos, hc, go_sem, Int.reduceEq, Int.reduceLT, Int.reduceLE, Int.reduceNeg, Nat.reduceAdd, Nat.reduceLT, Nat.reduceEqDiff, Nat.reduceMul, Nat.reduceLeDiff, reduceIte, Nat.reduceBEq, reduceCtorEq, evP_D, evD_guard, evD_cons, evD_zero, evD_nil]
                  exact ⟨⟨j + 1, ⟨hjb, fun i hi => by
                    by_cases h4 : i = j
                    · rw [h4, em]; exact hc
                    · exact hall i (by omega)⟩, rfl⟩, hmsj⟩
                · have hset := hset (fun _ => by rw [em]; omega)
                  simp (disch := (first | omega | assumption)) only [hjb', idx_nat, List.length_map, hgb, hpos, hc, hga, hal, hset, go_sem, Int.reduceEq, Int.reduceLT, Int.reduceLE, Int.reduceNeg, Nat.reduceAdd, Nat.reduceLT, Nat.reduceEqDiff, Nat.reduceMul, Nat.reduceLeDiff, reduceIte, Nat.reduceBEq, reduceCtorEq, evP_D, evD_guard, evD_cons, evD_zero, evD_nil]
                  exact ⟨⟨k + 1, hkl, rfl⟩, hms⟩
              · skip
                have em : mx 0 (today - dy l k) = 0 := if_neg hpos
                by_cases hc : b.getD j 0 < 0
                · simp (disch := (first | omega | assumption)) only [hjb', idx_nat, List.length_map, hgb, hpos, hc, go_sem, Int.reduceEq, Int.reduceLT, Int.reduceLE, Int.reduceNeg, Nat.reduceAdd, Nat.reduceLT, Nat.reduceEqDiff, Nat.reduceMul, Nat.reduceLeDiff, reduceIte, Nat.reduceBEq, reduceCtorEq, evP_D, evD_guard, evD_cons, evD_zero, evD_nil]
                  exact ⟨⟨j + 1, ⟨hjb, fun i hi => by
                    by_cases h4 : i = j
                    · rw [h4, em]; exact hc
                    · exact hall i (by omega)⟩, rfl⟩, hmsj⟩
                · have hset := hset (fun _ => by rw [em]; omega)
                  simp (disch := (first | omega | assumption)) only [hjb', idx_nat, List.length_map, hgb, hpos, hc, hga, hal, hset, go_sem, Int.reduceEq, Int.reduceLT, Int.reduceLE, Int.reduceNeg, Nat.reduceAdd, Nat.reduceLT, Nat.reduceEqDiff, Nat.reduceMul, Nat.reduceLeDiff, reduceIte, Nat.reduceBEq, reduceCtorEq, evP_D, evD_guard, evD_cons, evD_zero, evD_nil]
                  exact ⟨⟨k + 1, hkl, rfl⟩, hms⟩
            · have hjb' : ¬ (j : Int) < b.length := by omega
              have hset := hset (fun h => absurd h hjb)
              simp (disch := (first | omega | assumption)) only [hjb', idx_nat, List.length_map, hga, hal, hset, go_sem, Int.reduceEq, Int.reduceLT, Int.reduceLE, Int.reduceNeg, Nat.reduceAdd, Nat.reduceLT, Nat.reduceEqDiff, Nat.reduceMul, Nat.reduceLeDiff, reduceIte, Nat.reduceBEq, reduceCtorEq, evP_D, evD_guard, evD_cons, evD_zero, evD_nil]
              exact ⟨⟨k + 1, hkl, rfl⟩, hms⟩
        · have hkl2 : k = l.length := by omega
          subst hkl2
          have hkl' : ¬ ((l.length : Int) < l.length) := by omega
          simp (disch := (first | omega | assumption)) only [hkl', hAA, eqIF_rows, decide_true, go_sem, Int.reduceEq, Int.reduceLT, Int.reduceLE, Int.reduceNeg, Nat.reduceAdd, Nat.reduceLT, Nat.reduceEqDiff, Nat.reduceMul, Nat.reduceLeDiff, reduceIte, Nat.reduceBEq, reduceCtorEq, evP_D, evD_guard, evD_cons, evD_zero, evD_nil]
end Go.Proofs.Ytdjdipehfnnhpaa
