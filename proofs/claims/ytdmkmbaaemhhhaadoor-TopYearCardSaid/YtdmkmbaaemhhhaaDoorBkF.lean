/-
  Books, run by the machine: the program's Check.
-/
import Derived.Test.YtdmkmbaaemhhhaaDoorBkE
namespace Go.Proofs.YtdmkmbaaemhhhaaDoor
open Go Go.Ev Go.RowKit Go.Acc
set_option maxHeartbeats 4000000
set_option linter.unusedSimpArgs false
set_option linter.unusedVariables false
attribute [local go_sem] mutV getB mvB bkB V.mv V.mvL V.bk V.bkL Blk.mv Blk.bk posN nmN backN noDup app_writes setHL_nil setHL_cons postM_ret postM_normal resM hasB_nil hasB_cons St.mut names_nil names_cons sortV cellOf mkX_M mkX_S mkX_ln lnL_at ms0_mt ms0_st V.lone V.loneL List.zip_cons_cons List.zip_nil_left Option.isNone_none bornV subE partR unB bytesW boundsV ownP sliceW copyV clearV lenM takeV tk1 mapsV mkMapV hintOk lookV updV mapKE keyOk V.key app_lend callW_fn lendV postL_ret postL_normal postT_ret postT_normal takeR St.lent mkX_L bin_eql_vz bin_eql_zv bin_eql_rz bin_eql_zr bin_eql_zz bin_neq_vz bin_neq_zv bin_neq_rz bin_neq_zr bin_neq_zz eqH nilEq nonE plainI gOf_bool gOf_skip g_some g_none Int.ofNat_zero Int.cast_ofNat_Int Bool.false_and Bool.and_false sliceV noBox elemsZ V.scrub V.scrubL Blk.scrub appendV isSlice maxLen_eq leT List.contains_nil List.contains_cons nvL_at fzL_at fillV V.plain V.plainL Blk.plain List.size_toArray mapO_nil mapO_cons Option.isNone_some beqT beqF oI_not mkX_e phi_nil phi_cons bin_eql_bool bin_neq_bool bin_eql_agg bin_neq_agg eqV eqFs eqK_int eqK_bool' eqK_str mkX_T mkX_Φ mkX_n mkX_f mkX_d mkX_r nv0_at fz0_at evQ_dr evP_W evW_nil evW_cons evW_guard okW_eq tame_none tame_new tame_write wb_none wb_new wb_write okU_some offW_none offW_some touchOf V.noRef V.noRefL Option.isSome_some Option.isSome_none mild_none mild_new Option.getD_some Option.getD_none evQ_seq evQ_region evQ_block evQ_cond evQ_ret evQ_skip evQ_exit evO_cons evO_nil evO_guard freezeL_nil oS_some oS_none oS_ite oS_ite' oB_bool oI_true oI_false oE_normal oE_exit oE_ret bQ_normal bQ_ret bQ_exit lQ_normal lQ_ret lQ_exit List.zipIdx_cons List.zipIdx_nil List.map_cons List.map_nil evalOp opd_const opd_tmp opd_func ofC_int ofC_bool ofC_str ofC_nil app_none app_new app_write app_change putE_some putE_none setA_cons setA_nil setH_cons setH_nil mapA_cons mapA_nil look_cons look_nil e_mk h_mk drop_nil drop_mk keep_mk dstOk_some dstOk_none guardT_eq true_and and_true Bool.not_false Bool.not_true selB_true selB_false mem_nil mem_cons kpL_nil kpL_cons drL_nil drL_cons closed_mk V.refsIn V.refsInL Blk.refsIn List.all_cons List.all_nil lenV bin_add bin_sub bin_mul bin_quo bin_rem bin_eql bin_neq bin_lss bin_leq bin_gtr bin_geq un_neg un_not post_ret post_normal St.init Bool.false_eq_true List.length_map Bool.or_false Bool.or_true Bool.false_or Bool.true_or beq_self_eq_true Option.map_some Option.map_none Option.bind_some List.getElem?_cons_zero List.getElem?_cons_succ scalar stor isAggV V.cells List.cons_append List.nil_append if_true if_false wrap_of callV V.dataL V.data Bool.and_true Bool.true_and fresh names V.ren V.renL retV resV packL packV packC getBlks wrapR subV putV decide_true decide_false TK.agg List.length_cons List.length_nil List.take_succ_cons List.take_zero List.drop_succ_cons List.drop_zero List.take_nil List.drop_nil Nat.zero_add Nat.add_zero List.append_nil List.getElem?_nil elemsV ro ro0 ro1 roC ty1 ty2 ty3 ty4 ty5 ty6 ty7 ty8 ty9 ty10 ty11 ty12 ty13 ty14 ty15 ty16 ty17 ty18 ty19 ty21 ty22 ty23 ty24 ty26 ty27 ty28 ty29 ty30 ty31 ty32 ty33 ty34 ty35 ty36 ty37 ty38 ty39 ty40 ty41 ty42 ty44 ty45 ty47 ty49 ty51 ty53 ty54 ty55 ty56 ty57 ty58 ty59 ty60 ty61 ty62 ty63 ty64 ty65 ty66 ty67 ty68 ty69 ty70 ty71 ty72 ty73 ty74 ty75 ty76 ty77 ty78 ty79 ty80 ty81 ty82 ty83 ty84 ty85 ty86 ty87 ty88 ty89 ty90 ty92 ty93 ty94 ty95 ty96 ty97 ty98 ty99 ty100 ty101 ty102 ty103 ty104 ty105 ty107 ty108 ty109 ty110 ty111 ty112 ty113 ty114 ty115 ty116 ty117 ty118 ty119 ty123 ty124 ty125 ty126 ty127 ty128 ty129 ty130 ty131 ty132 ty133 ty135 ty136 ty137 ty138 ty139 ty141 ty142 ty143 ty144 ty146 ty147 ty148 ty149 ty153 ty154 ty155 ty156 ty157 ty158 ty159 ty160 ty161 eqs29 eqs61 eqs79 eqs94
set_option maxHeartbeats 4000000 in
theorem bcheck_sound {J : World → Prop} (hJ : Stable J) (A : List (ByteArray × Int)) (E : List En) (s : Int) (hE : E.length ≤ maxLen) : SoundAt Tryd.prog J 20 [bkV A E s] (.int .i64 (bkChk A E s)) [] := by
  have hlen : (E.length : Int) ≤ 9223372036854775807 := by unfold maxLen at hE; omega
  unfold bkV
  refine evFn (l := [(48, chkF), (49, echeckF), (50, knownF), (51, cmpF)]) (nv := nv0) (fz := fz0) (dr := dr20) (dd := dd20) (lam := []) (ms := ms0) ⟨check_snd hJ, echeck_snd hJ, known_snd hJ, cmp_snd hJ, trivial⟩ hJ trivial ms0_ok Tryd.func20 rfl rfl (Nat.le_of_ble_eq_true rfl) (Nat.le_of_ble_eq_true rfl) drOk20 ?_
  dsimp only [Tryd.f20, dr20, dd20, Option.getD_some]
  refine ev_start ?_
  by_cases ha : acChk A = 0
  case neg =>
    have e : bkChk A E s = acChk A := by unfold bkChk; rw [if_pos ha]
    simp (disch := omega) only [chkF_eq, ha, e, go_sem, Int.reduceEq, Int.reduceLT, Int.reduceLE, Int.reduceNeg, Nat.reduceAdd, Nat.reduceLT, Nat.reduceEqDiff, Nat.reduceMul, Nat.reduceLeDiff, reduceIte, Nat.reduceBEq, reduceCtorEq, evP_D, evD_guard, evD_cons, evD_zero, evD_nil]
  by_cases h1 : s < -1
  · have e : bkChk A E s = 1 := by unfold bkChk; rw [if_neg (fun h => h ha), if_pos (by omega)]
    simp (disch := omega) only [chkF_eq, ha, h1, e, go_sem, Int.reduceEq, Int.reduceLT, Int.reduceLE, Int.reduceNeg, Nat.reduceAdd, Nat.reduceLT, Nat.reduceEqDiff, Nat.reduceMul, Nat.reduceLeDiff, reduceIte, Nat.reduceBEq, reduceCtorEq, evP_D, evD_guard, evD_cons, evD_zero, evD_nil]
  by_cases h2 : 292193 < s
  · have e : bkChk A E s = 1 := by unfold bkChk; rw [if_neg (fun h => h ha), if_pos (by omega)]
    simp (disch := omega) only [chkF_eq, ha, h1, h2, e, go_sem, Int.reduceEq, Int.reduceLT, Int.reduceLE, Int.reduceNeg, Nat.reduceAdd, Nat.reduceLT, Nat.reduceEqDiff, Nat.reduceMul, Nat.reduceLeDiff, reduceIte, Nat.reduceBEq, reduceCtorEq, evP_D, evD_guard, evD_cons, evD_zero, evD_nil]
  by_cases h3 : 60 < E.length
  · have h3' : (60 : Int) < E.length := by omega
    have e : bkChk A E s = 2 := by unfold bkChk; rw [if_neg (fun h => h ha), if_neg (fun h => h (by omega)), if_pos h3]
    simp (disch := omega) only [chkF_eq, List.length_map, ha, h1, h2, h3', e, go_sem, Int.reduceEq, Int.reduceLT, Int.reduceLE, Int.reduceNeg, Nat.reduceAdd, Nat.reduceLT, Nat.reduceEqDiff, Nat.reduceMul, Nat.reduceLeDiff, reduceIte, Nat.reduceBEq, reduceCtorEq, evP_D, evD_guard, evD_cons, evD_zero, evD_nil]
  have h3' : ¬ (60 : Int) < E.length := by omega
  obtain ⟨R, hR⟩ : ∃ R, R = bkE A [] none E := ⟨_, rfl⟩
  have e : bkChk A E s = R := by unfold bkChk; rw [if_neg (fun h => h ha), if_neg (fun h => h (by omega)), if_neg h3, hR]
  rw [e]
  simp (disch := omega) only [chkF_eq, List.length_map, ha, h1, h2, h3', go_sem, Int.reduceEq, Int.reduceLT, Int.reduceLE, Int.reduceNeg, Nat.reduceAdd, Nat.reduceLT, Nat.reduceEqDiff, Nat.reduceMul, Nat.reduceLeDiff, reduceIte, Nat.reduceBEq, reduceCtorEq, evP_D, evD_guard, evD_cons, evD_zero, evD_nil]
  refine evQ_loop [1, 4, 28, 29, 30] [8, 208] (fun σ => ∃ (k : Nat), (k ≤ E.length ∧ R = bkE A (keysTo E k) (prvE E k) (E.drop k) ∧ ∀ y, prvE E k = some y → 0 ≤ y.2.1 ∧ y.2.1 ≤ 292193) ∧ σ = ⟨[(1, .ptr 8 0), (4, .vec 208), (28, .row 3 (E.map enW)), (29, .int .i64 E.length), (30, .int .i64 k)], [(8, .box (.agg [.row 2 (A.map acV), .row 3 (E.map enW), .int .i64 s])), (208, .map (setV (keysTo E k)))]⟩)
    (fun σ => E.length - (match Ev.look 30 σ.env with | some (.int _ n) => n.toNat | _ => 0)) ?_ ?_
  · simp only [go_sem, Int.reduceEq, Int.reduceLT, Int.reduceLE, Int.reduceNeg, Nat.reduceAdd, Nat.reduceLT, Nat.reduceEqDiff, Nat.reduceMul, Nat.reduceLeDiff, reduceIte, Nat.reduceBEq, reduceCtorEq, evP_D, evD_guard, evD_cons, evD_zero, evD_nil]
    exact ⟨0, ⟨Nat.zero_le _, hR, fun y hy => by cases hy⟩, rfl⟩
  · rintro σ ⟨k, ⟨hkl, hall, hpd⟩, rfl⟩
    by_cases hlt : k < E.length
    · have hlt' : (k : Int) < E.length := by omega
      obtain ⟨⟨c, d, l⟩, hcn⟩ : ∃ p, E[k]? = some p := ⟨_, List.getElem?_eq_getElem hlt⟩
      have hg := enW_get hcn
      have hks := keysTo_succ hcn
      have hpn : prvE E (k + 1) = some (c, d, l) := by unfold prvE; rw [if_neg (by omega), Nat.add_sub_cancel, hcn]
      rw [bkE_drop hcn] at hall
      have hms : E.length - ((k : Int) + 1).toNat < E.length - (k : Int).toNat := by
        have e3 : ((k : Int) + 1).toNat = k + 1 := by omega
        rw [e3, Int.toNat_natCast]; exact Nat.sub_lt_sub_left hlt (Nat.lt_succ_self k)
      have hx0 : enX (c, d, l) = enE c d l := rfl
      rw [hx0] at hall
      by_cases hz : enE c d l = 0
      case neg =>
        rw [if_pos hz] at hall
        rw [hall]
        simp (disch := (first | omega | assumption)) only [hlt', idx_nat, List.length_map, hg, echeckF_eq, hz, go_sem, Int.reduceEq, Int.reduceLT, Int.reduceLE, Int.reduceNeg, Nat.reduceAdd, Nat.reduceLT, Nat.reduceEqDiff, Nat.reduceMul, Nat.reduceLeDiff, reduceIte, Nat.reduceBEq, reduceCtorEq, evP_D, evD_guard, evD_cons, evD_zero, evD_nil]
      rw [if_neg (fun h => h hz)] at hall
      cases hkn : knownB A (c, d, l) with
      | false =>
        rw [if_pos hkn] at hall
        rw [hall]
        simp (disch := (first | omega | assumption)) only [hlt', idx_nat, List.length_map, hg, echeckF_eq, knownF_eq, hz, hkn, go_sem, Int.reduceEq, Int.reduceLT, Int.reduceLE, Int.reduceNeg, Nat.reduceAdd, Nat.reduceLT, Nat.reduceEqDiff, Nat.reduceMul, Nat.reduceLeDiff, reduceIte, Nat.reduceBEq, reduceCtorEq, evP_D, evD_guard, evD_cons, evD_zero, evD_nil]
      | true =>
        rw [if_neg (by rw [hkn]; simp)] at hall
        have hfi := find_set c (keysTo E k)
        cases hcs : hasC c (keysTo E k) with
        | true =>
          rw [hcs, if_pos rfl] at hfi
          rw [if_pos hcs] at hall
          rw [hall]
          simp (disch := (first | omega | assumption)) only [hlt', idx_nat, List.length_map, hg, echeckF_eq, knownF_eq, hz, hkn, hfi, go_sem, Int.reduceEq, Int.reduceLT, Int.reduceLE, Int.reduceNeg, Nat.reduceAdd, Nat.reduceLT, Nat.reduceEqDiff, Nat.reduceMul, Nat.reduceLeDiff, reduceIte, Nat.reduceBEq, reduceCtorEq, evP_D, evD_guard, evD_cons, evD_zero, evD_nil]
        | false =>
          rw [hcs, if_neg (by simp)] at hfi
          rw [if_neg (by rw [hcs]; simp)] at hall
          have hup := upd_set c (keysTo E k) hcs
          rw [← hks] at hup
          have hd := (enX_ok (x := (c, d, l)) hz).1
          simp only at hd
          by_cases hk0 : k = 0
          · subst hk0
            have hp : prvE E 0 = none := rfl
            rw [hp] at hall
            have h0 : ¬ (0 : Int) < ((0 : Nat) : Int) := by omega
            have z0 : ((0 : Nat) : Int) = 0 := rfl
            have hi0 := idx_nat E.length 0 hlt
            rw [z0] at hlt' h0 hi0 hms ⊢
            simp (disch := (first | omega | assumption)) only [hlt', hi0, List.length_map, hg, echeckF_eq, knownF_eq, hz, hkn, hfi, hup, h0, go_sem, Int.reduceEq, Int.reduceLT, Int.reduceLE, Int.reduceNeg, Nat.reduceAdd, Nat.reduceLT, Nat.reduceEqDiff, Nat.reduceMul, Nat.reduceLeDiff, reduceIte, Nat.reduceBEq, reduceCtorEq, evP_D, evD_guard, evD_cons, evD_zero, evD_nil]
            exact ⟨⟨1, ⟨hlt, by rw [if_neg (by simp [badO])] at hall; exact hall, fun y hy => by rw [hpn] at hy; cases hy; exact hd⟩, rfl⟩, hms⟩
          · have h0 : (0 : Int) < k := by omega
            have hk1 : k - 1 < E.length := by omega
            obtain ⟨⟨c', d', l'⟩, hcn'⟩ : ∃ p, E[k - 1]? = some p := ⟨_, List.getElem?_eq_getElem hk1⟩
            have hg' := enW_get hcn'
            have hp : prvE E k = some (c', d', l') := by unfold prvE; rw [if_neg hk0, hcn']
            have hd' := hpd _ hp
            simp only at hd'
            rw [hp] at hall
            have e1 : (k : Int) - 1 = ((k - 1 : Nat) : Int) := by omega
            have hcm := cmpF_eq (a := c') (b := c) (l := l') (m := l) hd' hd
            have hge := cmpE_ge (c', d', l') (c, d, l)
            cases hb : ltB (c', d', l') (c, d, l) with
            | false =>
              have hge' : 0 ≤ cmpE (c', d', l') (c, d, l) := hge.2 hb
              rw [if_pos (by simp [badO, hb])] at hall
              rw [hall]
              simp (disch := (first | omega | assumption)) only [hlt', idx_nat, List.length_map, hg, hg', echeckF_eq, knownF_eq, hz, hkn, hfi, hup, h0, e1, hcm, hge', go_sem, Int.reduceEq, Int.reduceLT, Int.reduceLE, Int.reduceNeg, Nat.reduceAdd, Nat.reduceLT, Nat.reduceEqDiff, Nat.reduceMul, Nat.reduceLeDiff, reduceIte, Nat.reduceBEq, reduceCtorEq, evP_D, evD_guard, evD_cons, evD_zero, evD_nil]
            | true =>
              have hge' : ¬ 0 ≤ cmpE (c', d', l') (c, d, l) := fun h => by rw [hge.1 h] at hb; cases hb
              rw [if_neg (by simp [badO, hb])] at hall
              simp (disch := (first | omega | assumption)) only [hlt', idx_nat, List.length_map, hg, hg', echeckF_eq, knownF_eq, hz, hkn, hfi, hup, h0, e1, hcm, hge', go_sem, Int.reduceEq, Int.reduceLT, Int.reduceLE, Int.reduceNeg, Nat.reduceAdd, Nat.reduceLT, Nat.reduceEqDiff, Nat.reduceMul, Nat.reduceLeDiff, reduceIte, Nat.reduceBEq, reduceCtorEq, evP_D, evD_guard, evD_cons, evD_zero, evD_nil]
              exact ⟨⟨k + 1, ⟨hlt, hall, fun y hy => by rw [hpn] at hy; cases hy; exact hd⟩, rfl⟩, hms⟩
    · have hk' : k = E.length := by omega
      subst hk'
      have hlt' : ¬ ((E.length : Int) < E.length) := by omega
      have e0 : R = 0 := by rw [hall, List.drop_length]; rfl
      simp (disch := (first | omega | assumption)) only [hlt', e0, go_sem, Int.reduceEq, Int.reduceLT, Int.reduceLE, Int.reduceNeg, Nat.reduceAdd, Nat.reduceLT, Nat.reduceEqDiff, Nat.reduceMul, Nat.reduceLeDiff, reduceIte, Nat.reduceBEq, reduceCtorEq, evP_D, evD_guard, evD_cons, evD_zero, evD_nil]
end Go.Proofs.YtdmkmbaaemhhhaaDoor
