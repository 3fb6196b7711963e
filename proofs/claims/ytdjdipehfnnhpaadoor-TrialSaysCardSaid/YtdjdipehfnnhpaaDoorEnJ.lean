/-
  EntrySays' law, run by the machine.
-/
import Derived.Test.YtdjdipehfnnhpaaDoorEnI
namespace Go.Proofs.YtdjdipehfnnhpaaDoor
open Go Go.Ev Go.RowKit Go.Acc
set_option maxHeartbeats 4000000
set_option linter.unusedSimpArgs false
set_option linter.unusedVariables false
attribute [local go_sem] lenM takeV tk1 mapsV mkMapV hintOk lookV updV mapKE keyOk V.key app_lend callW_fn lendV postL_ret postL_normal St.lent mkX_L bin_eql_vz bin_eql_zv bin_eql_rz bin_eql_zr bin_eql_zz bin_neq_vz bin_neq_zv bin_neq_rz bin_neq_zr bin_neq_zz eqH nilEq nonE plainI gOf_bool gOf_skip g_some g_none Int.ofNat_zero Int.cast_ofNat_Int Bool.false_and Bool.and_false sliceV noBox elemsZ V.scrub V.scrubL Blk.scrub appendV isSlice maxLen_eq leT List.contains_nil List.contains_cons nvL_at fzL_at fillV V.plain V.plainL Blk.plain List.size_toArray mapO_nil mapO_cons Option.isNone_none Option.isNone_some beqT beqF oI_not mkX_e phi_nil phi_cons bin_eql_bool bin_neq_bool bin_eql_agg bin_neq_agg eqV eqFs eqK_int eqK_bool' eqK_str mkX_T mkX_Φ mkX_n mkX_f mkX_d mkX_r nv0_at fz0_at evQ_dr evP_W evW_nil evW_cons evW_guard okW_eq tame_none tame_new tame_write wb_none wb_new wb_write okU_some offW_none offW_some touchOf V.noRef V.noRefL Option.isSome_some Option.isSome_none mild_none mild_new Option.getD_some Option.getD_none evQ_seq evQ_region evQ_block evQ_cond evQ_ret evQ_skip evQ_exit evO_cons evO_nil evO_guard freezeL_nil oS_some oS_none oS_ite oS_ite' oB_bool oI_true oI_false oE_normal oE_exit oE_ret bQ_normal bQ_ret bQ_exit lQ_normal lQ_ret lQ_exit List.zipIdx_cons List.zipIdx_nil List.map_cons List.map_nil evalOp opd_const opd_tmp opd_func ofC_int ofC_bool ofC_str ofC_nil app_none app_new app_write app_change putE_some putE_none setA_cons setA_nil setH_cons setH_nil mapA_cons mapA_nil look_cons look_nil e_mk h_mk drop_nil drop_mk keep_mk dstOk_some dstOk_none guardT_eq true_and and_true Bool.not_false Bool.not_true selB_true selB_false mem_nil mem_cons kpL_nil kpL_cons drL_nil drL_cons closed_mk V.refsIn V.refsInL Blk.refsIn List.all_cons List.all_nil lenV bin_add bin_sub bin_mul bin_quo bin_rem bin_eql bin_neq bin_lss bin_leq bin_gtr bin_geq un_neg un_not post_ret post_normal St.init Bool.false_eq_true List.length_map Bool.or_false Bool.or_true Bool.false_or Bool.true_or beq_self_eq_true Option.map_some Option.map_none Option.bind_some List.getElem?_cons_zero List.getElem?_cons_succ scalar stor isAggV V.cells List.cons_append List.nil_append if_true if_false wrap_of callV V.dataL V.data Bool.and_true Bool.true_and fresh names V.ren V.renL retV resV packL packV packC getBlks wrapR subV putV decide_true decide_false TK.agg List.length_cons List.length_nil List.take_succ_cons List.take_zero List.drop_succ_cons List.drop_zero List.take_nil List.drop_nil Nat.zero_add Nat.add_zero List.append_nil List.getElem?_nil elemsV ro ro0 ro1 roC ty2 ty3 ty4 ty5 ty6 ty7 ty8 ty9 ty10 ty11 ty12 ty13 ty14 ty18 ty19 ty21 ty24 ty25 ty28 ty29 ty30 ty31 ty35 ty36 ty37 ty45 ty50 ty51 ty71 ty75 ty79 ty80 ty84 ty91 ty92 ty98 ty99 ty109 ty114 ty129 ty134 ty146 ty158 ty159 ty160 ty161 ty165 ty166 ty171 ty172 ty175 ty176 ty177 ty178 eqs51 eqs80 eqs92 eqs99
theorem key_a : keyOk' ⟨#[97]⟩ = true := by decide
theorem echeck_zero : echeckF [.agg [.str ByteArray.empty, .int .i64 0, .zero]] = some (.int .i64 3, []) := by
  have : enE ByteArray.empty 0 [] = 3 := by decide
  simp only [echeckF, rowAc, Option.map_some, this]
noncomputable def enPhi (xk : ByteArray) (xd : Int) (l : List (ByteArray × Int)) (key : ByteArray) : Phi := [(26, at1 [.agg [.str xk, .int .i64 xd, .row 2 (l.map acV)]] (.int .i64 (enE xk xd l), [])),
  (27, keyF), (28, at1 [.str key] (.bool (keyOk' key), [])), (29, echeckF), (31, sameF)]
theorem enPhi_ok {J : World → Prop} (hJ : Stable J) (xk : ByteArray) (xd : Int) (l : List (ByteArray × Int)) (key : ByteArray) (h1 : xk.size ≤ maxLen) (h2 : l.length ≤ maxLen) (h3 : key.size ≤ maxLen) : PhiOk Tryd.prog J (enPhi xk xd l key) :=
  ⟨at1_snd (rentry_sound hJ xk xd l h1 h2), key_snd hJ, at1_snd (rkey_sound hJ key h3), echeck_snd hJ, same_snd hJ, trivial⟩
set_option maxRecDepth 100000 in
set_option maxHeartbeats 8000000 in
theorem entry_law {J : World → Prop} (hJ : Stable J) (xk : ByteArray) (xd : Int) (l : List (ByteArray × Int)) (key : ByteArray) (day : Int) (h1 : xk.size ≤ maxLen) (h2 : l.length ≤ maxLen) (h3 : key.size ≤ maxLen) :
    SoundAt Tryd.prog J 5 [enV xk xd (.row 2 (l.map acV)), .str key, .int .i64 day] (.bool true) [] := by
  have hzz := sameF_eq (k := ByteArray.empty) (d := 0) (L := .zero) (M := .zero) (l := []) rfl rfl
  obtain ⟨T, hT⟩ : ∃ T, T = (if enE xk xd l = 0 then (if keyOk' key = false then 3 else if ¬ (0 ≤ day ∧ day ≤ 292193) then 1 else 0) else enE xk xd l) := ⟨_, rfl⟩
  by_cases hT0 : T = 0
  · have hz : enE xk xd l = 0 := by
      by_cases h : enE xk xd l = 0
      · exact h
      · rw [if_neg h] at hT; omega
    rw [if_pos hz] at hT
    have hk : keyOk' key = true := by
      cases h : keyOk' key with
      | true => rfl
      | false => rw [if_pos h] at hT; omega
    rw [if_neg (by rw [hk]; simp)] at hT
    have hd : 0 ≤ day ∧ day ≤ 292193 := by
      by_cases h : 0 ≤ day ∧ day ≤ 292193
      · exact h
      · rw [if_pos h] at hT; omega
    have hA := turned_sound hJ xk xd l key day hz hk hd
    have hB := rturned_sound hJ xk xd l key day hz hk hd h3
    have hS := sameF_eq (k := key) (d := day) (rowAc_row (turnL l)) (rowAc_row (turnL l))
    unfold enV at hA hB ⊢
    refine evFn (l := (25, at1 _ (.tup [.agg [.str key, .int .i64 day, .vec 0], .int .i64 0], [.vec 92 2 ((turnL l).map acV)])) :: (30, at1 _ (.tup [.agg [.str key, .int .i64 day, .vec 0], .int .i64 0], [.vec 92 2 ((turnL l).map acV)])) :: enPhi xk xd l key) (nv := nv0) (fz := fz0) (dr := dr5) (dd := dd5) (lam := []) ⟨at1_snd hA, at1_snd hB, enPhi_ok hJ xk xd l key h1 h2 h3⟩ hJ trivial Tryd.func5 rfl rfl (Nat.le_of_ble_eq_true rfl) (Nat.le_of_ble_eq_true rfl) drOk5 ?_
    dsimp only [Tryd.f5, dr5, dd5, Option.getD_some]
    refine ev_start ?_
    have he := echeckF_eq xk xd l
    rw [hz] at he
    simp (disch := omega) only [enPhi, at1_eq, keyF_eq, he, echeck_zero, key_a, hk, hz, hS, decide_true, List.mapM_cons, List.mapM_nil, Option.bind_eq_bind, Option.pure_def, Option.bind_some, go_sem, Int.reduceEq, Int.reduceLT, Int.reduceLE, Int.reduceNeg, Nat.reduceAdd, Nat.reduceLT, Nat.reduceEqDiff, Nat.reduceMul, Nat.reduceLeDiff, reduceIte, Nat.reduceBEq, reduceCtorEq, evP_D, evD_guard, evD_cons, evD_zero, evD_nil]
  · have hA := turned_bad hJ xk xd l key day T hT.symm hT0
    by_cases hz : enE xk xd l = 0
    · have hT' := hT
      rw [if_pos hz] at hT'
      have hB := rturned_bad hJ xk xd l key day T h3 hT'.symm hT0
      unfold enV ozV at hA hB
      unfold enV
      refine evFn (l := (25, at1 _ (.tup [.agg [.str ByteArray.empty, .int .i64 0, .zero], .int .i64 T], [])) :: (30, at1 _ (.tup [.agg [.str ByteArray.empty, .int .i64 0, .zero], .int .i64 T], [])) :: enPhi xk xd l key) (nv := nv0) (fz := fz0) (dr := dr5) (dd := dd5) (lam := []) ⟨at1_snd hA, at1_snd hB, enPhi_ok hJ xk xd l key h1 h2 h3⟩ hJ trivial Tryd.func5 rfl rfl (Nat.le_of_ble_eq_true rfl) (Nat.le_of_ble_eq_true rfl) drOk5 ?_
      dsimp only [Tryd.f5, dr5, dd5, Option.getD_some]
      refine ev_start ?_
      have he := echeckF_eq xk xd l
      rw [hz] at he
      clear hT hT'
      cases hk : keyOk' key <;> simp (disch := omega) only [enPhi, at1_eq, keyF_eq, he, echeck_zero, key_a, hk, hz, hzz, decide_true, go_sem, Int.reduceEq, Int.reduceLT, Int.reduceLE, Int.reduceNeg, Nat.reduceAdd, Nat.reduceLT, Nat.reduceEqDiff, Nat.reduceMul, Nat.reduceLeDiff, reduceIte, Nat.reduceBEq, reduceCtorEq, evP_D, evD_guard, evD_cons, evD_zero, evD_nil]
    · rw [if_neg hz] at hT
      subst hT
      unfold enV ozV at hA
      unfold enV
      refine evFn (l := (25, at1 _ (.tup [.agg [.str ByteArray.empty, .int .i64 0, .zero], .int .i64 (enE xk xd l)], [])) :: enPhi xk xd l key) (nv := nv0) (fz := fz0) (dr := dr5) (dd := dd5) (lam := []) ⟨at1_snd hA, enPhi_ok hJ xk xd l key h1 h2 h3⟩ hJ trivial Tryd.func5 rfl rfl (Nat.le_of_ble_eq_true rfl) (Nat.le_of_ble_eq_true rfl) drOk5 ?_
      dsimp only [Tryd.f5, dr5, dd5, Option.getD_some]
      refine ev_start ?_
      have he := echeckF_eq xk xd l
      cases hk : keyOk' key <;> simp (disch := omega) only [enPhi, at1_eq, keyF_eq, he, echeck_zero, key_a, hk, hz, hzz, decide_true, go_sem, Int.reduceEq, Int.reduceLT, Int.reduceLE, Int.reduceNeg, Nat.reduceAdd, Nat.reduceLT, Nat.reduceEqDiff, Nat.reduceMul, Nat.reduceLeDiff, reduceIte, Nat.reduceBEq, reduceCtorEq, evP_D, evD_guard, evD_cons, evD_zero, evD_nil]
end Go.Proofs.YtdjdipehfnnhpaaDoor
