/-
  Profit and Sheet, run by the machine.
-/
import Derived.Test.YtdjdipehfnnhpaaTsF
namespace Go.Proofs.Ytdjdipehfnnhpaa
open Go Go.Ev Go.RowKit Go.Acc
set_option maxHeartbeats 4000000
set_option linter.unusedSimpArgs false
set_option linter.unusedVariables false
attribute [local go_sem] lenM takeV tk1 mapsV mkMapV hintOk lookV updV mapKE keyOk V.key app_lend callW_fn lendV postL_ret postL_normal St.lent mkX_L bin_eql_vz bin_eql_zv bin_eql_rz bin_eql_zr bin_eql_zz bin_neq_vz bin_neq_zv bin_neq_rz bin_neq_zr bin_neq_zz eqH nilEq nonE plainI gOf_bool gOf_skip g_some g_none Int.ofNat_zero Int.cast_ofNat_Int Bool.false_and Bool.and_false sliceV noBox elemsZ V.scrub V.scrubL Blk.scrub appendV isSlice maxLen_eq leT List.contains_nil List.contains_cons nvL_at fzL_at fillV V.plain V.plainL Blk.plain List.size_toArray mapO_nil mapO_cons Option.isNone_none Option.isNone_some beqT beqF oI_not mkX_e phi_nil phi_cons bin_eql_bool bin_neq_bool bin_eql_agg bin_neq_agg eqV eqFs eqK_int eqK_bool' eqK_str mkX_T mkX_Φ mkX_n mkX_f mkX_d mkX_r nv0_at fz0_at evQ_dr evP_W evW_nil evW_cons evW_guard okW_eq tame_none tame_new tame_write wb_none wb_new wb_write okU_some offW_none offW_some touchOf V.noRef V.noRefL Option.isSome_some Option.isSome_none mild_none mild_new Option.getD_some Option.getD_none evQ_seq evQ_region evQ_block evQ_cond evQ_ret evQ_skip evQ_exit evO_cons evO_nil evO_guard freezeL_nil oS_some oS_none oS_ite oS_ite' oB_bool oI_true oI_false oE_normal oE_exit oE_ret bQ_normal bQ_ret bQ_exit lQ_normal lQ_ret lQ_exit List.zipIdx_cons List.zipIdx_nil List.map_cons List.map_nil evalOp opd_const opd_tmp opd_func ofC_int ofC_bool ofC_str ofC_nil app_none app_new app_write app_change putE_some putE_none setA_cons setA_nil setH_cons setH_nil mapA_cons mapA_nil look_cons look_nil e_mk h_mk drop_nil drop_mk keep_mk dstOk_some dstOk_none guardT_eq true_and and_true Bool.not_false Bool.not_true selB_true selB_false mem_nil mem_cons kpL_nil kpL_cons drL_nil drL_cons closed_mk V.refsIn V.refsInL Blk.refsIn List.all_cons List.all_nil lenV bin_add bin_sub bin_mul bin_quo bin_rem bin_eql bin_neq bin_lss bin_leq bin_gtr bin_geq un_neg un_not post_ret post_normal St.init Bool.false_eq_true List.length_map Bool.or_false Bool.or_true Bool.false_or Bool.true_or beq_self_eq_true Option.map_some Option.map_none Option.bind_some List.getElem?_cons_zero List.getElem?_cons_succ scalar stor isAggV V.cells List.cons_append List.nil_append if_true if_false wrap_of callV V.dataL V.data Bool.and_true Bool.true_and fresh names V.ren V.renL retV resV packL packV packC getBlks wrapR subV putV decide_true decide_false TK.agg List.length_cons List.length_nil List.take_succ_cons List.take_zero List.drop_succ_cons List.drop_zero List.take_nil List.drop_nil Nat.zero_add Nat.add_zero List.append_nil List.getElem?_nil elemsV ro ro0 ro1 roC ty2 ty3 ty4 ty5 ty6 ty7 ty8 ty9 ty10 ty11 ty12 ty13 ty14 ty18 ty19 ty21 ty24 ty25 ty33 ty34 ty35 ty36 ty41 ty42 ty43 ty45 ty46 ty53 ty63 ty64 ty69 ty74 ty77 ty78 ty96 ty98 ty108 ty115 ty142 ty143 ty148 ty149 ty152 ty153 ty154 ty155 eqs46 eqs64 eqs78
theorem tlook_zero {A : List (ByteArray × Int)} {E : List En} {s day : Int} (hz : tlookE A E s day = 0) : bkChk A E s = 0 ∧ 0 ≤ day ∧ day ≤ 292193 := by
  unfold tlookE at hz
  by_cases h : bkChk A E s = 0
  · rw [if_neg (fun hh => hh h)] at hz
    by_cases hd : 0 ≤ day ∧ day ≤ 292193
    · exact ⟨h, hd⟩
    · rw [if_neg hd] at hz; omega
  · rw [if_pos h] at hz; exact absurd hz h
def profE (A : List (ByteArray × Int)) (E : List En) (s f t : Int) : Int := if tlookE A E s f ≠ 0 then tlookE A E s f else if (0 ≤ t ∧ t ≤ 292193) ∧ f ≤ t then 0 else 1
def profN (A : List (ByteArray × Int)) (E : List En) (s f t : Int) : Int := if profE A E s f t = 0 then -kdS E f t 3 A - kdS E f t 4 A else 0
set_option maxHeartbeats 4000000 in
theorem profit_sound {J : World → Prop} (hJ : Stable J) (A : List (ByteArray × Int)) (E : List En) (s f t : Int) (hE : E.length ≤ maxLen) :
    SoundAt Try.prog J 21 [bkV A E s, .int .i64 f, .int .i64 t] (.tup [.int .i64 (profN A E s f t), .int .i64 (profE A E s f t)]) [] := by
  have hL := tlook_sound hJ A E s f hE
  unfold bkV at hL ⊢
  by_cases hz : tlookE A E s f = 0
  case neg =>
    have e1 : profE A E s f t = tlookE A E s f := if_pos hz
    have e2 : profN A E s f t = 0 := by unfold profN; rw [e1, if_neg hz]
    refine evFn (l := [(57, at1 _ (.int .i64 (tlookE A E s f), []))]) (nv := nv0) (fz := fz0) (dr := dr21) (dd := dd21) (lam := []) ⟨at1_snd hL, trivial⟩ hJ trivial Try.func21 rfl rfl (Nat.le_of_ble_eq_true rfl) (Nat.le_of_ble_eq_true rfl) drOk21 ?_
    dsimp only [Try.f21, dr21, dd21, Option.getD_some]
    refine ev_start ?_
    simp (disch := omega) only [at1_eq, hz, e1, e2, go_sem, Int.reduceEq, Int.reduceLT, Int.reduceLE, Int.reduceNeg, Nat.reduceAdd, Nat.reduceLT, Nat.reduceEqDiff, Nat.reduceMul, Nat.reduceLeDiff, reduceIte, Nat.reduceBEq, reduceCtorEq, evP_D, evD_guard, evD_cons, evD_zero, evD_nil]
  by_cases hd : 0 ≤ t ∧ t ≤ 292193
  case neg =>
    have e1 : profE A E s f t = 1 := by unfold profE; rw [if_neg (fun h => h hz), if_neg (fun h => hd h.1)]
    have e2 : profN A E s f t = 0 := by unfold profN; rw [e1]; rfl
    have hd' := decide_eq_false hd
    refine evFn (l := [(57, at1 _ (.int .i64 (tlookE A E s f), [])), (55, dayF)]) (nv := nv0) (fz := fz0) (dr := dr21) (dd := dd21) (lam := []) ⟨at1_snd hL, is_snd hJ, trivial⟩ hJ trivial Try.func21 rfl rfl (Nat.le_of_ble_eq_true rfl) (Nat.le_of_ble_eq_true rfl) drOk21 ?_
    dsimp only [Try.f21, dr21, dd21, Option.getD_some]
    refine ev_start ?_
    simp (disch := omega) only [at1_eq, dayF_eq, hz, hd', e1, e2, go_sem, Int.reduceEq, Int.reduceLT, Int.reduceLE, Int.reduceNeg, Nat.reduceAdd, Nat.reduceLT, Nat.reduceEqDiff, Nat.reduceMul, Nat.reduceLeDiff, reduceIte, Nat.reduceBEq, reduceCtorEq, evP_D, evD_guard, evD_cons, evD_zero, evD_nil]
  by_cases hft : t < f
  · have e1 : profE A E s f t = 1 := by unfold profE; rw [if_neg (fun h => h hz), if_neg (fun h => by omega)]
    have e2 : profN A E s f t = 0 := by unfold profN; rw [e1]; rfl
    have hd' := decide_eq_true hd
    refine evFn (l := [(57, at1 _ (.int .i64 (tlookE A E s f), [])), (55, dayF)]) (nv := nv0) (fz := fz0) (dr := dr21) (dd := dd21) (lam := []) ⟨at1_snd hL, is_snd hJ, trivial⟩ hJ trivial Try.func21 rfl rfl (Nat.le_of_ble_eq_true rfl) (Nat.le_of_ble_eq_true rfl) drOk21 ?_
    dsimp only [Try.f21, dr21, dd21, Option.getD_some]
    refine ev_start ?_
    simp (disch := omega) only [at1_eq, dayF_eq, hz, hd', hft, e1, e2, go_sem, Int.reduceEq, Int.reduceLT, Int.reduceLE, Int.reduceNeg, Nat.reduceAdd, Nat.reduceLT, Nat.reduceEqDiff, Nat.reduceMul, Nat.reduceLeDiff, reduceIte, Nat.reduceBEq, reduceCtorEq, evP_D, evD_guard, evD_cons, evD_zero, evD_nil]
  have hc := (tlook_zero hz).1
  have hK := kinds_sound hJ A E s f t hc
  obtain ⟨h1, _, h3, h4⟩ := bkChk_ok hc
  have hEn : ∀ x ∈ E, enX x = 0 := fun x hx => (h4 x hx).1
  have hA24 := (acChk_codes h1).1
  have b3 := kdS_bd hEn h3 f t 3 hA24 A.length
  have b4 := kdS_bd hEn h3 f t 4 hA24 A.length
  rw [List.take_length] at b3 b4
  have e1 : profE A E s f t = 0 := by unfold profE; rw [if_neg (fun h => h hz), if_pos ⟨hd, by omega⟩]
  have e2 : profN A E s f t = -kdS E f t 3 A - kdS E f t 4 A := by unfold profN; rw [if_pos e1]
  have hd' := decide_eq_true hd
  unfold bkV kdV at hK
  refine evFn (l := [(57, at1 _ (.int .i64 (tlookE A E s f), [])), (55, dayF), (58, at1 _ (_, []))]) (nv := nv0) (fz := fz0) (dr := dr21) (dd := dd21) (lam := []) ⟨at1_snd hL, is_snd hJ, at1_snd hK, trivial⟩ hJ trivial Try.func21 rfl rfl (Nat.le_of_ble_eq_true rfl) (Nat.le_of_ble_eq_true rfl) drOk21 ?_
  dsimp only [Try.f21, dr21, dd21, Option.getD_some]
  refine ev_start ?_
  simp (disch := omega) only [at1_eq, dayF_eq, hz, hd', hft, e1, e2, idx5_0, idx5_1, idx5_2, idx5_3, idx5_4, Int.zero_sub, go_sem, Int.reduceEq, Int.reduceLT, Int.reduceLE, Int.reduceNeg, Nat.reduceAdd, Nat.reduceLT, Nat.reduceEqDiff, Nat.reduceMul, Nat.reduceLeDiff, reduceIte, Nat.reduceBEq, reduceCtorEq, evP_D, evD_guard, evD_cons, evD_zero, evD_nil]
end Go.Proofs.Ytdjdipehfnnhpaa
