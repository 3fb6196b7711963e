/-
  The whole's helpers, run by the machine: Within, keys, what is moved, plain books, begun.
-/
import Derived.Test.YtdjdipehfnnhpaaTopP
import Derived.Test.YtdjdipehfnnhpaaPoH
namespace Go.Proofs.Ytdjdipehfnnhpaa
open Go Go.Ev Go.RowKit Go.Acc
set_option maxHeartbeats 4000000
set_option linter.unusedSimpArgs false
set_option linter.unusedVariables false
attribute [local go_sem] subE partR boundsV ownP sliceW copyV clearV lenM takeV tk1 mapsV mkMapV hintOk lookV updV mapKE keyOk V.key app_lend callW_fn lendV postL_ret postL_normal postT_ret postT_normal takeR St.lent mkX_L bin_eql_vz bin_eql_zv bin_eql_rz bin_eql_zr bin_eql_zz bin_neq_vz bin_neq_zv bin_neq_rz bin_neq_zr bin_neq_zz eqH nilEq nonE plainI gOf_bool gOf_skip g_some g_none Int.ofNat_zero Int.cast_ofNat_Int Bool.false_and Bool.and_false sliceV noBox elemsZ V.scrub V.scrubL Blk.scrub appendV isSlice maxLen_eq leT List.contains_nil List.contains_cons nvL_at fzL_at fillV V.plain V.plainL Blk.plain List.size_toArray mapO_nil mapO_cons Option.isNone_none Option.isNone_some beqT beqF oI_not mkX_e phi_nil phi_cons bin_eql_bool bin_neq_bool bin_eql_agg bin_neq_agg eqV eqFs eqK_int eqK_bool' eqK_str mkX_T mkX_Φ mkX_n mkX_f mkX_d mkX_r nv0_at fz0_at evQ_dr evP_W evW_nil evW_cons evW_guard okW_eq tame_none tame_new tame_write wb_none wb_new wb_write okU_some offW_none offW_some touchOf V.noRef V.noRefL Option.isSome_some Option.isSome_none mild_none mild_new Option.getD_some Option.getD_none evQ_seq evQ_region evQ_block evQ_cond evQ_ret evQ_skip evQ_exit evO_cons evO_nil evO_guard freezeL_nil oS_some oS_none oS_ite oS_ite' oB_bool oI_true oI_false oE_normal oE_exit oE_ret bQ_normal bQ_ret bQ_exit lQ_normal lQ_ret lQ_exit List.zipIdx_cons List.zipIdx_nil List.map_cons List.map_nil evalOp opd_const opd_tmp opd_func ofC_int ofC_bool ofC_str ofC_nil app_none app_new app_write app_change putE_some putE_none setA_cons setA_nil setH_cons setH_nil mapA_cons mapA_nil look_cons look_nil e_mk h_mk drop_nil drop_mk keep_mk dstOk_some dstOk_none guardT_eq true_and and_true Bool.not_false Bool.not_true selB_true selB_false mem_nil mem_cons kpL_nil kpL_cons drL_nil drL_cons closed_mk V.refsIn V.refsInL Blk.refsIn List.all_cons List.all_nil lenV bin_add bin_sub bin_mul bin_quo bin_rem bin_eql bin_neq bin_lss bin_leq bin_gtr bin_geq un_neg un_not post_ret post_normal St.init Bool.false_eq_true List.length_map Bool.or_false Bool.or_true Bool.false_or Bool.true_or beq_self_eq_true Option.map_some Option.map_none Option.bind_some List.getElem?_cons_zero List.getElem?_cons_succ scalar stor isAggV V.cells List.cons_append List.nil_append if_true if_false wrap_of callV V.dataL V.data Bool.and_true Bool.true_and fresh names V.ren V.renL retV resV packL packV packC getBlks wrapR subV putV decide_true decide_false TK.agg List.length_cons List.length_nil List.take_succ_cons List.take_zero List.drop_succ_cons List.drop_zero List.take_nil List.drop_nil Nat.zero_add Nat.add_zero List.append_nil List.getElem?_nil elemsV ro ro0 ro1 roC ty2 ty3 ty4 ty5 ty6 ty7 ty8 ty9 ty10 ty11 ty12 ty13 ty14 ty18 ty19 ty21 ty24 ty25 ty33 ty34 ty35 ty36 ty41 ty42 ty43 ty45 ty46 ty53 ty63 ty64 ty69 ty74 ty77 ty78 ty96 ty98 ty108 ty115 ty142 ty143 ty148 ty149 ty152 ty153 ty154 ty155 eqs46 eqs64 eqs78
/-- k mod n, k as an unsigned number -/
def wthn (k n : Int) : Int := (k % 18446744073709551616) % n
theorem wthn_bd (k : Int) {n : Int} (h : 0 < n) : 0 ≤ wthn k n ∧ wthn k n < n := ⟨Int.emod_nonneg _ (by omega), Int.emod_lt_of_pos _ h⟩
theorem within_sound {J : World → Prop} (hJ : Stable J) (k n : Int) (h0 : 0 < n) (h1 : n ≤ 9223372036854775807) : SoundAt Try.prog J 8 [.int .i64 k, .int .i64 n] (.int .i64 (wthn k n)) [] := by
  have w1 : IntKind.u64.wrap k = k % 18446744073709551616 := by simp [IntKind.wrap, IntKind.bits, IntKind.signed]
  have w2 : IntKind.u64.wrap n = n := by simp [IntKind.wrap, IntKind.bits, IntKind.signed]; omega
  have hn0 : ¬ n = 0 := by omega
  have hb := wthn_bd k h0
  have ht : (k % 18446744073709551616).tmod n = wthn k n := Int.tmod_eq_emod_of_nonneg (Int.emod_nonneg _ (by decide))
  have w3 : IntKind.i64.wrap (wthn k n) = wthn k n := by rw [IntKind.wrap_i64]; omega
  refine evFn (l := []) (nv := nv0) (fz := fz0) (dr := dr8) (dd := dd8) (lam := []) trivial hJ trivial Try.func8 rfl rfl (Nat.le_of_ble_eq_true rfl) (Nat.le_of_ble_eq_true rfl) drOk8 ?_
  dsimp only [Try.f8, dr8, dd8, Option.getD_some]
  refine ev_start ?_
  simp (disch := omega) only [w1, w2, hn0, ht, w3, go_sem, Int.reduceEq, Int.reduceLT, Int.reduceLE, Int.reduceNeg, Nat.reduceAdd, Nat.reduceLT, Nat.reduceEqDiff, Nat.reduceMul, Nat.reduceLeDiff, reduceIte, Nat.reduceBEq, reduceCtorEq, evP_D, evD_guard, evD_cons, evD_zero, evD_nil]
theorem tkey_sound {J : World → Prop} (hJ : Stable J) (n : Nat) (h : n < 100) : SoundAt Try.prog J 43 [.int .i64 n] (.str (keyT n)) [] := by
  have hD := dec_nat hJ 1 n (by simpa using h) (by omega) (by omega)
  have hs := decF_size 1 n (by simpa using h)
  have h1 : ByteArray.size (⟨#[107]⟩ : ByteArray) = 1 := rfl
  have e : keyT n = (⟨#[107]⟩ : ByteArray) ++ decF 1 n := rfl
  rw [e]
  refine evFn (l := [(73, at1 _ (_, []))]) (nv := nv0) (fz := fz0) (dr := dr43) (dd := dd43) (lam := []) ⟨at1_snd hD, trivial⟩ hJ trivial Try.func43 rfl rfl (Nat.le_of_ble_eq_true rfl) (Nat.le_of_ble_eq_true rfl) drOk43 ?_
  dsimp only [Try.f43, dr43, dd43, Option.getD_some]
  refine ev_start ?_
  simp (disch := omega) only [at1_eq, bin_add_str, go_sem, Int.reduceEq, Int.reduceLT, Int.reduceLE, Int.reduceNeg, Nat.reduceAdd, Nat.reduceLT, Nat.reduceEqDiff, Nat.reduceMul, Nat.reduceLeDiff, reduceIte, Nat.reduceBEq, reduceCtorEq, evP_D, evD_guard, evD_cons, evD_zero, evD_nil]
theorem moved_sound {J : World → Prop} (hJ : Stable J) (n : Nat) (at_ a : Int) (to from_ : ByteArray) (h : n < 100) (h0 : -1000000000000 ≤ a) (h1 : a ≤ 1000000000000) :
    SoundAt Try.prog J 18 [.int .i64 n, .int .i64 at_, .int .i64 a, .str to, .str from_] (enW (mvX n at_ a to from_)) [] := by
  have hK := tkey_sound hJ n h
  have e : enW (mvX n at_ a to from_) = .agg [.str (keyT n), .int .i64 at_, .row 2 [.agg [.str to, .int .i64 a], .agg [.str from_, .int .i64 (-a)]]] := rfl
  rw [e]
  refine evFn (l := [(43, at1 _ (_, []))]) (nv := nv0) (fz := fzL [(22, [168])]) (dr := dr18) (dd := dd18) (lam := []) ⟨at1_snd hK, trivial⟩ hJ trivial Try.func18 rfl rfl (Nat.le_of_ble_eq_true rfl) (Nat.le_of_ble_eq_true rfl) drOk18 ?_
  dsimp only [Try.f18, dr18, dd18, Option.getD_some]
  refine ev_start ?_
  simp (disch := omega) only [at1_eq, Int.zero_sub, freezeL, St.freeze, List.filter_cons, List.filter_nil, bne, go_sem, Int.reduceEq, Int.reduceLT, Int.reduceLE, Int.reduceNeg, Nat.reduceAdd, Nat.reduceLT, Nat.reduceEqDiff, Nat.reduceMul, Nat.reduceLeDiff, reduceIte, Nat.reduceBEq, reduceCtorEq, evP_D, evD_guard, evD_cons, evD_zero, evD_nil]
theorem tplain_sound {J : World → Prop} (hJ : Stable J) : SoundAt Try.prog J 15 [] (bkV plA [] (-1)) [] := by
  refine sound_res (r := .agg [.row 2 (plA.map acV), .zero, .int .i64 (-1)]) ?_ rfl fun w ok val hv => ?_
  · have e : plA.map acV = [.agg [.str c10, .int .i64 0], .agg [.str c15, .int .i64 0], .agg [.str c20, .int .i64 1], .agg [.str c30, .int .i64 2], .agg [.str c40, .int .i64 3], .agg [.str c50, .int .i64 4]] := rfl
    rw [e]
    unfold c10 c15 c20 c30 c40 c50
    refine evFn (l := []) (nv := nv0) (fz := fzL [(8, [56])]) (dr := dr15) (dd := dd15) (lam := []) trivial hJ trivial Try.func15 rfl rfl (Nat.le_of_ble_eq_true rfl) (Nat.le_of_ble_eq_true rfl) drOk15 ?_
    dsimp only [Try.f15, dr15, dd15, Option.getD_some]
    refine ev_start ?_
    simp (disch := omega) only [freezeL, St.freeze, List.filter_cons, List.filter_nil, bne, go_sem, Int.reduceEq, Int.reduceLT, Int.reduceLE, Int.reduceNeg, Nat.reduceAdd, Nat.reduceLT, Nat.reduceEqDiff, Nat.reduceMul, Nat.reduceLeDiff, reduceIte, Nat.reduceBEq, reduceCtorEq, evP_D, evD_guard, evD_cons, evD_zero, evD_nil]
  · cases hv with
    | agg cs vs hlen h1 hh =>
      refine .agg _ vs (by simpa using hlen) h1 fun j c v hc hv => ?_
      match j with
      | 0 => exact hh 0 c v hc hv
      | 1 => simp at hc; subst hc; exact zero_row 3 _ _ _ (hh 1 .zero v rfl hv)
      | 2 => exact hh 2 c v hc hv
      | j + 3 => simp at hc
theorem begun_law : postE plA [] (-1) (mvX 1 5 7 c10 c40) = 0 ∧ bkChk plA (postB [] (mvX 1 5 7 c10 c40)) (-1) = 0 ∧ ofB c10 0 5 (postB [] (mvX 1 5 7 c10 c40)) = 7 := by
  have hne : c10 ≠ c40 := by decide +kernel
  have hx := enX_mv (n := 1) (at_ := 5) (a := 7) (by omega) (by omega) (by omega) (by omega) (by omega) (by omega) codes_ok.1 codes_ok.2.2.2.2.1 hne
  obtain ⟨e1, e2⟩ := post_mv plain_ok hx (by simp) plA_has.1 plA_has.2.2.2.2.1 (by omega) (by simp)
  refine ⟨e1, (postE_ok e1).2.2, ?_⟩
  rw [e2, ofB_ins]
  have hc := eq_true (show (0 : Int) ≤ 5 ∧ (5 : Int) ≤ 5 by omega)
  simp only [ofX_mv, hc, if_true, Ne.symm hne, if_false]
  rfl
theorem begun_sound {J : World → Prop} (hJ : Stable J) : SoundAt Try.prog J 7 [] (.bool true) [] := by
  obtain ⟨e1, e2, e3⟩ := begun_law
  have hl := (bkChk_iff.1 e2).2.2.1
  have hP := tplain_sound hJ
  have hM := moved_sound hJ 1 5 7 c10 c40 (by omega) (by omega) (by omega)
  have hPo := post_sound hJ plA [] (-1) (mvX 1 5 7 c10 c40) (by simp)
  have hB := balance_sound hJ plA (postB [] (mvX 1 5 7 c10 c40)) (-1) c10 5 (by unfold maxLen; omega)
  have eR : posR plA [] (-1) (mvX 1 5 7 c10 c40) = .tup [bkV plA (postB [] (mvX 1 5 7 c10 c40)) (-1), .int .i64 0] := by unfold posR; rw [e1, if_pos rfl]
  have b1 : balE plA (postB [] (mvX 1 5 7 c10 c40)) (-1) c10 5 = 0 := by unfold balE; rw [if_neg (fun h => h e2), if_neg (by rw [plA_has.1]; simp), if_neg (fun h => h (by omega))]
  have b2 : balN plA (postB [] (mvX 1 5 7 c10 c40)) (-1) c10 5 = 7 := by unfold balN; rw [if_pos b1, e3]
  rw [eR] at hPo
  rw [b1, b2] at hB
  generalize postB [] (mvX 1 5 7 c10 c40) = E at *
  unfold bkV at hP hPo hB
  generalize mvX 1 5 7 c10 c40 = X at *
  obtain ⟨k, d, l⟩ := X
  rw [enW_mk] at hM hPo
  unfold c10 c40 at hM
  unfold c10 at hB
  refine evFn (l := [(15, at1 _ (_, [])), (18, at1 _ (_, [])), (19, at1 _ (_, [])), (20, at1 _ (_, []))]) (nv := nv0) (fz := fz0) (dr := dr7) (dd := dd7) (lam := []) ⟨at1_snd hP, at1_snd hM, at1_snd hPo, at1_snd hB, trivial⟩ hJ trivial Try.func7 rfl rfl (Nat.le_of_ble_eq_true rfl) (Nat.le_of_ble_eq_true rfl) drOk7 ?_
  dsimp only [Try.f7, dr7, dd7, Option.getD_some]
  refine ev_start ?_
  simp (disch := omega) only [at1_eq, go_sem, Int.reduceEq, Int.reduceLT, Int.reduceLE, Int.reduceNeg, Nat.reduceAdd, Nat.reduceLT, Nat.reduceEqDiff, Nat.reduceMul, Nat.reduceLeDiff, reduceIte, Nat.reduceBEq, reduceCtorEq, evP_D, evD_guard, evD_cons, evD_zero, evD_nil]
end Go.Proofs.Ytdjdipehfnnhpaa
