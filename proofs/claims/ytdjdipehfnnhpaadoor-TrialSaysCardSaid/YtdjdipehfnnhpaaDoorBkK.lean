/-
  BookTells' law, run by the machine.
-/
import Derived.Test.YtdjdipehfnnhpaaDoorBkJ
namespace Go.Proofs.YtdjdipehfnnhpaaDoor
open Go Go.Ev Go.RowKit Go.Acc
set_option maxHeartbeats 4000000
set_option linter.unusedSimpArgs false
set_option linter.unusedVariables false
attribute [local go_sem] lenM takeV tk1 mapsV mkMapV hintOk lookV updV mapKE keyOk V.key app_lend callW_fn lendV postL_ret postL_normal St.lent mkX_L bin_eql_vz bin_eql_zv bin_eql_rz bin_eql_zr bin_eql_zz bin_neq_vz bin_neq_zv bin_neq_rz bin_neq_zr bin_neq_zz eqH nilEq nonE plainI gOf_bool gOf_skip g_some g_none Int.ofNat_zero Int.cast_ofNat_Int Bool.false_and Bool.and_false sliceV noBox elemsZ V.scrub V.scrubL Blk.scrub appendV isSlice maxLen_eq leT List.contains_nil List.contains_cons nvL_at fzL_at fillV V.plain V.plainL Blk.plain List.size_toArray mapO_nil mapO_cons Option.isNone_none Option.isNone_some beqT beqF oI_not mkX_e phi_nil phi_cons bin_eql_bool bin_neq_bool bin_eql_agg bin_neq_agg eqV eqFs eqK_int eqK_bool' eqK_str mkX_T mkX_Φ mkX_n mkX_f mkX_d mkX_r nv0_at fz0_at evQ_dr evP_W evW_nil evW_cons evW_guard okW_eq tame_none tame_new tame_write wb_none wb_new wb_write okU_some offW_none offW_some touchOf V.noRef V.noRefL Option.isSome_some Option.isSome_none mild_none mild_new Option.getD_some Option.getD_none evQ_seq evQ_region evQ_block evQ_cond evQ_ret evQ_skip evQ_exit evO_cons evO_nil evO_guard freezeL_nil oS_some oS_none oS_ite oS_ite' oB_bool oI_true oI_false oE_normal oE_exit oE_ret bQ_normal bQ_ret bQ_exit lQ_normal lQ_ret lQ_exit List.zipIdx_cons List.zipIdx_nil List.map_cons List.map_nil evalOp opd_const opd_tmp opd_func ofC_int ofC_bool ofC_str ofC_nil app_none app_new app_write app_change putE_some putE_none setA_cons setA_nil setH_cons setH_nil mapA_cons mapA_nil look_cons look_nil e_mk h_mk drop_nil drop_mk keep_mk dstOk_some dstOk_none guardT_eq true_and and_true Bool.not_false Bool.not_true selB_true selB_false mem_nil mem_cons kpL_nil kpL_cons drL_nil drL_cons closed_mk V.refsIn V.refsInL Blk.refsIn List.all_cons List.all_nil lenV bin_add bin_sub bin_mul bin_quo bin_rem bin_eql bin_neq bin_lss bin_leq bin_gtr bin_geq un_neg un_not post_ret post_normal St.init Bool.false_eq_true List.length_map Bool.or_false Bool.or_true Bool.false_or Bool.true_or beq_self_eq_true Option.map_some Option.map_none Option.bind_some List.getElem?_cons_zero List.getElem?_cons_succ scalar stor isAggV V.cells List.cons_append List.nil_append if_true if_false wrap_of callV V.dataL V.data Bool.and_true Bool.true_and fresh names V.ren V.renL retV resV packL packV packC getBlks wrapR subV putV decide_true decide_false TK.agg List.length_cons List.length_nil List.take_succ_cons List.take_zero List.drop_succ_cons List.drop_zero List.take_nil List.drop_nil Nat.zero_add Nat.add_zero List.append_nil List.getElem?_nil elemsV ro ro0 ro1 roC ty2 ty3 ty4 ty5 ty6 ty7 ty8 ty9 ty10 ty11 ty12 ty13 ty14 ty18 ty19 ty21 ty24 ty25 ty28 ty29 ty30 ty31 ty35 ty36 ty37 ty45 ty50 ty51 ty71 ty75 ty79 ty80 ty84 ty91 ty92 ty98 ty99 ty109 ty114 ty129 ty134 ty146 ty158 ty159 ty160 ty161 ty165 ty166 ty171 ty172 ty175 ty176 ty177 ty178 eqs51 eqs80 eqs92 eqs99
noncomputable def btPhi (A : List (ByteArray × Int)) (E : List En) (s : Int) (c : ByteArray) (day : Int) (X : V) : Phi := [(16, at1 [.agg [.row 2 (A.map acV), .row 3 (E.map enW), .int .i64 s], .str c, .int .i64 day] (.tup [.int .i64 (balN A E s c day), .int .i64 (balE A E s c day)], [])),
  (39, at1 [.agg [.row 2 (A.map acV), .row 3 (E.map enW), .int .i64 s], .int .i64 day] (.tup [X, .int .i64 (shutE A E s day)], [])),
  (35, at1 [.agg [.row 2 (A.map acV), .row 3 (E.map enW), .int .i64 s]] (.int .i64 (bkChk A E s), [])), (40, hasF), (36, dayF), (42, toldF)]
theorem btPhi_ok {J : World → Prop} (hJ : Stable J) (A : List (ByteArray × Int)) (E : List En) (s : Int) (c : ByteArray) (day : Int) (X : V) (hE : okEn E) (hX : X = if shutE A E s day = 0 then bkV A E day else zbV) : PhiOk Tryd.prog J (btPhi A E s c day X) := by
  subst hX
  exact ⟨at1_snd (balance_sound hJ A E s c day hE.1), at1_snd (shut_sound hJ A E s day hE.1), at1_snd (rbook_sound hJ A E s hE), has_snd hJ, day_snd hJ, told_snd hJ, trivial⟩
set_option maxRecDepth 100000 in
set_option maxHeartbeats 8000000 in
theorem book_law {J : World → Prop} (hJ : Stable J) (A : List (ByteArray × Int)) (E : List En) (s : Int) (c : ByteArray) (day : Int) (hE : okEn E) :
    SoundAt Tryd.prog J 7 [bkV A E s, .str c, .int .i64 day] (.bool true) [] := by
  by_cases hz : bkChk A E s = 0
  case neg =>
    have e1 : balE A E s c day = bkChk A E s := by unfold balE; rw [if_pos hz]
    have e2 : balN A E s c day = 0 := by unfold balN; rw [e1, if_neg hz]
    have e3 : shutE A E s day = bkChk A E s := by unfold shutE; rw [if_pos hz]
    have ht := toldF_eq (x := .zero) (x' := .zero) (y := .zero) (y' := .zero) (s := 0) (e := bkChk A E s) (A := []) (E := []) rfl rfl rfl rfl
    have hP := btPhi_ok hJ A E s c day (.agg [.zero, .zero, .int .i64 0]) hE (by rw [e3, if_neg hz]; rfl)
    unfold bkV
    refine evFn (l := btPhi A E s c day (.agg [.zero, .zero, .int .i64 0])) (nv := nv0) (fz := fz0) (dr := dr7) (dd := dd7) (lam := []) hP hJ trivial Tryd.func7 rfl rfl (Nat.le_of_ble_eq_true rfl) (Nat.le_of_ble_eq_true rfl) drOk7 ?_
    dsimp only [Tryd.f7, dr7, dd7, Option.getD_some]
    refine ev_start ?_
    simp (disch := omega) only [btPhi, at1_eq, hz, e1, e2, e3, ht, go_sem, Int.reduceEq, Int.reduceLT, Int.reduceLE, Int.reduceNeg, Nat.reduceAdd, Nat.reduceLT, Nat.reduceEqDiff, Nat.reduceMul, Nat.reduceLeDiff, reduceIte, Nat.reduceBEq, reduceCtorEq, evP_D, evD_guard, evD_cons, evD_zero, evD_nil]
  have hk := bkChk_ok hz
  have hS := sums_sound hJ A E s 0 day (fun x hx => (hk.2.2.2 x hx).1) hk.2.2.1
  have hlk := lookM_sums c 0 day E
  have hfi := find_mV c (sumsM 0 day E)
  by_cases hd : 0 ≤ day ∧ day ≤ 292193
  case neg =>
    have hd' := decide_eq_false hd
    have e3 : shutE A E s day = 1 := by unfold shutE; rw [if_neg (fun h => h hz), if_pos hd]
    have ht := toldF_eq (x := .zero) (x' := .zero) (y := .zero) (y' := .zero) (s := 0) (e := 1) (A := []) (E := []) rfl rfl rfl rfl
    have hP := btPhi_ok hJ A E s c day (.agg [.zero, .zero, .int .i64 0]) hE (by rw [e3]; rfl)
    have e1 : balE A E s c day = if hasA A c = false then 4 else 1 := by unfold balE; rw [if_neg (fun h => h hz), if_pos hd]
    cases hh : hasA A c with
    | false =>
      rw [hh, if_pos rfl] at e1
      have e2 : balN A E s c day = 0 := by unfold balN; rw [e1]; rfl
      unfold bkV
      refine evFn (l := btPhi A E s c day (.agg [.zero, .zero, .int .i64 0])) (nv := nv0) (fz := fz0) (dr := dr7) (dd := dd7) (lam := []) hP hJ trivial Tryd.func7 rfl rfl (Nat.le_of_ble_eq_true rfl) (Nat.le_of_ble_eq_true rfl) drOk7 ?_
      dsimp only [Tryd.f7, dr7, dd7, Option.getD_some]
      refine ev_start ?_
      simp (disch := omega) only [btPhi, at1_eq, hasF_eq, dayF_eq, hh, hd', hz, e1, e2, e3, ht, go_sem, Int.reduceEq, Int.reduceLT, Int.reduceLE, Int.reduceNeg, Nat.reduceAdd, Nat.reduceLT, Nat.reduceEqDiff, Nat.reduceMul, Nat.reduceLeDiff, reduceIte, Nat.reduceBEq, reduceCtorEq, evP_D, evD_guard, evD_cons, evD_zero, evD_nil]
    | true =>
      rw [hh, if_neg (by simp)] at e1
      have e2 : balN A E s c day = 0 := by unfold balN; rw [e1]; rfl
      unfold bkV
      refine evFn (l := btPhi A E s c day (.agg [.zero, .zero, .int .i64 0])) (nv := nv0) (fz := fz0) (dr := dr7) (dd := dd7) (lam := []) hP hJ trivial Tryd.func7 rfl rfl (Nat.le_of_ble_eq_true rfl) (Nat.le_of_ble_eq_true rfl) drOk7 ?_
      dsimp only [Tryd.f7, dr7, dd7, Option.getD_some]
      refine ev_start ?_
      simp (disch := omega) only [btPhi, at1_eq, hasF_eq, dayF_eq, hh, hd', hz, e1, e2, e3, ht, go_sem, Int.reduceEq, Int.reduceLT, Int.reduceLE, Int.reduceNeg, Nat.reduceAdd, Nat.reduceLT, Nat.reduceEqDiff, Nat.reduceMul, Nat.reduceLeDiff, reduceIte, Nat.reduceBEq, reduceCtorEq, evP_D, evD_guard, evD_cons, evD_zero, evD_nil]
  have hd' := decide_eq_true hd
  have e1 : balE A E s c day = if hasA A c = false then 4 else 0 := by unfold balE; rw [if_neg (fun h => h hz), if_neg (c := ¬ (0 ≤ day ∧ day ≤ 292193)) (fun h => h hd)]
  have e3 : shutE A E s day = if day < s then 9 else 0 := by unfold shutE; rw [if_neg (fun h => h hz), if_neg (fun h => h hd)]
  by_cases hs : day < s
  · rw [if_pos hs] at e3
    have ht := toldF_eq (x := .zero) (x' := .zero) (y := .zero) (y' := .zero) (s := 0) (e := 9) (A := []) (E := []) rfl rfl rfl rfl
    have hP := btPhi_ok hJ A E s c day (.agg [.zero, .zero, .int .i64 0]) hE (by rw [e3]; rfl)
    unfold bkV at hS ⊢
    cases hh : hasA A c with
    | false =>
      rw [hh, if_pos rfl] at e1
      have e2 : balN A E s c day = 0 := by unfold balN; rw [e1]; rfl
      refine evFn (l := btPhi A E s c day (.agg [.zero, .zero, .int .i64 0])) (nv := nv0) (fz := fz0) (dr := dr7) (dd := dd7) (lam := []) hP hJ trivial Tryd.func7 rfl rfl (Nat.le_of_ble_eq_true rfl) (Nat.le_of_ble_eq_true rfl) drOk7 ?_
      dsimp only [Tryd.f7, dr7, dd7, Option.getD_some]
      refine ev_start ?_
      simp (disch := omega) only [btPhi, at1_eq, hasF_eq, dayF_eq, hh, hd', hs, hz, e1, e2, e3, ht, go_sem, Int.reduceEq, Int.reduceLT, Int.reduceLE, Int.reduceNeg, Nat.reduceAdd, Nat.reduceLT, Nat.reduceEqDiff, Nat.reduceMul, Nat.reduceLeDiff, reduceIte, Nat.reduceBEq, reduceCtorEq, evP_D, evD_guard, evD_cons, evD_zero, evD_nil]
    | true =>
      rw [hh, if_neg (by simp)] at e1
      have e2 : balN A E s c day = ofB c 0 day E := by unfold balN; rw [e1]; rfl
      refine evFn (l := (41, at1 _ (.vec 0, [.map (mV (sumsM 0 day E))])) :: btPhi A E s c day (.agg [.zero, .zero, .int .i64 0])) (nv := nv0) (fz := fz0) (dr := dr7) (dd := dd7) (lam := []) ⟨at1_snd hS, hP⟩ hJ trivial Tryd.func7 rfl rfl (Nat.le_of_ble_eq_true rfl) (Nat.le_of_ble_eq_true rfl) drOk7 ?_
      dsimp only [Tryd.f7, dr7, dd7, Option.getD_some]
      refine ev_start ?_
      cases hv : lookM c (sumsM 0 day E) with
      | some v =>
        rw [hv] at hfi hlk
        simp only [Option.getD_some] at hlk
        rw [← hlk] at e2
        simp (disch := omega) only [btPhi, at1_eq, hasF_eq, dayF_eq, hh, hd', hs, hz, e1, e2, e3, ht, hfi, Option.map_some, go_sem, Int.reduceEq, Int.reduceLT, Int.reduceLE, Int.reduceNeg, Nat.reduceAdd, Nat.reduceLT, Nat.reduceEqDiff, Nat.reduceMul, Nat.reduceLeDiff, reduceIte, Nat.reduceBEq, reduceCtorEq, evP_D, evD_guard, evD_cons, evD_zero, evD_nil]
      | none =>
        rw [hv] at hfi hlk
        simp only [Option.getD_none] at hlk
        rw [← hlk] at e2
        simp (disch := omega) only [btPhi, at1_eq, hasF_eq, dayF_eq, hh, hd', hs, hz, e1, e2, e3, ht, hfi, Option.map_none, go_sem, Int.reduceEq, Int.reduceLT, Int.reduceLE, Int.reduceNeg, Nat.reduceAdd, Nat.reduceLT, Nat.reduceEqDiff, Nat.reduceMul, Nat.reduceLeDiff, reduceIte, Nat.reduceBEq, reduceCtorEq, evP_D, evD_guard, evD_cons, evD_zero, evD_nil]
  · rw [if_neg hs] at e3
    have ht := toldF_eq (s := day) (e := 0) (rowAc_row A) (rowAc_row A) (rowEn_row E) (rowEn_row E)
    have hP := btPhi_ok hJ A E s c day (.agg [.row 2 (A.map acV), .row 3 (E.map enW), .int .i64 day]) hE (by rw [e3]; rfl)
    unfold bkV at hS ⊢
    cases hh : hasA A c with
    | false =>
      rw [hh, if_pos rfl] at e1
      have e2 : balN A E s c day = 0 := by unfold balN; rw [e1]; rfl
      refine evFn (l := btPhi A E s c day (.agg [.row 2 (A.map acV), .row 3 (E.map enW), .int .i64 day])) (nv := nv0) (fz := fz0) (dr := dr7) (dd := dd7) (lam := []) hP hJ trivial Tryd.func7 rfl rfl (Nat.le_of_ble_eq_true rfl) (Nat.le_of_ble_eq_true rfl) drOk7 ?_
      dsimp only [Tryd.f7, dr7, dd7, Option.getD_some]
      refine ev_start ?_
      simp (disch := omega) only [btPhi, at1_eq, hasF_eq, dayF_eq, hh, hd', hs, hz, e1, e2, e3, ht, go_sem, Int.reduceEq, Int.reduceLT, Int.reduceLE, Int.reduceNeg, Nat.reduceAdd, Nat.reduceLT, Nat.reduceEqDiff, Nat.reduceMul, Nat.reduceLeDiff, reduceIte, Nat.reduceBEq, reduceCtorEq, evP_D, evD_guard, evD_cons, evD_zero, evD_nil]
    | true =>
      rw [hh, if_neg (by simp)] at e1
      have e2 : balN A E s c day = ofB c 0 day E := by unfold balN; rw [e1]; rfl
      refine evFn (l := (41, at1 _ (.vec 0, [.map (mV (sumsM 0 day E))])) :: btPhi A E s c day (.agg [.row 2 (A.map acV), .row 3 (E.map enW), .int .i64 day])) (nv := nv0) (fz := fz0) (dr := dr7) (dd := dd7) (lam := []) ⟨at1_snd hS, hP⟩ hJ trivial Tryd.func7 rfl rfl (Nat.le_of_ble_eq_true rfl) (Nat.le_of_ble_eq_true rfl) drOk7 ?_
      dsimp only [Tryd.f7, dr7, dd7, Option.getD_some]
      refine ev_start ?_
      cases hv : lookM c (sumsM 0 day E) with
      | some v =>
        rw [hv] at hfi hlk
        simp only [Option.getD_some] at hlk
        rw [← hlk] at e2
        simp (disch := omega) only [btPhi, at1_eq, hasF_eq, dayF_eq, hh, hd', hs, hz, e1, e2, e3, ht, hfi, Option.map_some, go_sem, Int.reduceEq, Int.reduceLT, Int.reduceLE, Int.reduceNeg, Nat.reduceAdd, Nat.reduceLT, Nat.reduceEqDiff, Nat.reduceMul, Nat.reduceLeDiff, reduceIte, Nat.reduceBEq, reduceCtorEq, evP_D, evD_guard, evD_cons, evD_zero, evD_nil]
      | none =>
        rw [hv] at hfi hlk
        simp only [Option.getD_none] at hlk
        rw [← hlk] at e2
        simp (disch := omega) only [btPhi, at1_eq, hasF_eq, dayF_eq, hh, hd', hs, hz, e1, e2, e3, ht, hfi, Option.map_none, go_sem, Int.reduceEq, Int.reduceLT, Int.reduceLE, Int.reduceNeg, Nat.reduceAdd, Nat.reduceLT, Nat.reduceEqDiff, Nat.reduceMul, Nat.reduceLeDiff, reduceIte, Nat.reduceBEq, reduceCtorEq, evP_D, evD_guard, evD_cons, evD_zero, evD_nil]
end Go.Proofs.YtdjdipehfnnhpaaDoor
