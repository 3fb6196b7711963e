/-
  Post, run by the machine.
-/
import Derived.Test.YtdjdipehfnnhpaaPoG
namespace Go.Proofs.Ytdjdipehfnnhpaa
open Go Go.Ev Go.RowKit Go.Acc
set_option maxHeartbeats 4000000
set_option linter.unusedSimpArgs false
set_option linter.unusedVariables false
attribute [local go_sem] subE partR boundsV ownP sliceW copyV clearV lenM takeV tk1 mapsV mkMapV hintOk lookV updV mapKE keyOk V.key app_lend callW_fn lendV postL_ret postL_normal postT_ret postT_normal takeR St.lent mkX_L bin_eql_vz bin_eql_zv bin_eql_rz bin_eql_zr bin_eql_zz bin_neq_vz bin_neq_zv bin_neq_rz bin_neq_zr bin_neq_zz eqH nilEq nonE plainI gOf_bool gOf_skip g_some g_none Int.ofNat_zero Int.cast_ofNat_Int Bool.false_and Bool.and_false sliceV noBox elemsZ V.scrub V.scrubL Blk.scrub appendV isSlice maxLen_eq leT List.contains_nil List.contains_cons nvL_at fzL_at fillV V.plain V.plainL Blk.plain List.size_toArray mapO_nil mapO_cons Option.isNone_none Option.isNone_some beqT beqF oI_not mkX_e phi_nil phi_cons bin_eql_bool bin_neq_bool bin_eql_agg bin_neq_agg eqV eqFs eqK_int eqK_bool' eqK_str mkX_T mkX_Φ mkX_n mkX_f mkX_d mkX_r nv0_at fz0_at evQ_dr evP_W evW_nil evW_cons evW_guard okW_eq tame_none tame_new tame_write wb_none wb_new wb_write okU_some offW_none offW_some touchOf V.noRef V.noRefL Option.isSome_some Option.isSome_none mild_none mild_new Option.getD_some Option.getD_none evQ_seq evQ_region evQ_block evQ_cond evQ_ret evQ_skip evQ_exit evO_cons evO_nil evO_guard freezeL_nil oS_some oS_none oS_ite oS_ite' oB_bool oI_true oI_false oE_normal oE_exit oE_ret bQ_normal bQ_ret bQ_exit lQ_normal lQ_ret lQ_exit List.zipIdx_cons List.zipIdx_nil List.map_cons List.map_nil evalOp opd_const opd_tmp opd_func ofC_int ofC_bool ofC_str ofC_nil app_none app_new app_write app_change putE_some putE_none setA_cons setA_nil setH_cons setH_nil mapA_cons mapA_nil look_cons look_nil e_mk h_mk drop_nil drop_mk keep_mk dstOk_some dstOk_none guardT_eq true_and and_true Bool.not_false Bool.not_true selB_true selB_false mem_nil mem_cons kpL_nil kpL_cons drL_nil drL_cons closed_mk V.refsIn V.refsInL Blk.refsIn List.all_cons List.all_nil lenV bin_add bin_sub bin_mul bin_quo bin_rem bin_eql bin_neq bin_lss bin_leq bin_gtr bin_geq un_neg un_not post_ret post_normal St.init Bool.false_eq_true List.length_map Bool.or_false Bool.or_true Bool.false_or Bool.true_or beq_self_eq_true Option.map_some Option.map_none Option.bind_some List.getElem?_cons_zero List.getElem?_cons_succ scalar stor isAggV V.cells List.cons_append List.nil_append if_true if_false wrap_of callV V.dataL V.data Bool.and_true Bool.true_and fresh names V.ren V.renL retV resV packL packV packC getBlks wrapR subV putV decide_true decide_false TK.agg List.length_cons List.length_nil List.take_succ_cons List.take_zero List.drop_succ_cons List.drop_zero List.take_nil List.drop_nil Nat.zero_add Nat.add_zero List.append_nil List.getElem?_nil elemsV ro ro0 ro1 roC ty2 ty3 ty4 ty5 ty6 ty7 ty8 ty9 ty10 ty11 ty12 ty13 ty14 ty18 ty19 ty21 ty24 ty25 ty33 ty34 ty35 ty36 ty41 ty42 ty43 ty45 ty46 ty53 ty63 ty64 ty69 ty74 ty77 ty78 ty96 ty98 ty108 ty115 ty142 ty143 ty148 ty149 ty152 ty153 ty154 ty155 eqs46 eqs64 eqs78
theorem enW_mk (k : ByteArray) (d : Int) (l : List (ByteArray × Int)) : enW (k, d, l) = .agg [.str k, .int .i64 d, .row 2 (l.map acV)] := rfl
noncomputable def poPhi (A : List (ByteArray × Int)) (E : List En) (s : Int) (x : En) : Phi :=
  [(44, at1 [.agg [.row 2 (A.map acV), .row 3 (E.map enW), .int .i64 s]] (.int .i64 (bkChk A E s), [])), (45, echeckF), (46, at1 [.agg [.row 2 (A.map acV), .row 3 (E.map enW), .int .i64 s], .str x.1] (.int .i64 (fiE x.1 E), [])), (49, knownF)]
theorem poPhi_ok {J : World → Prop} (hJ : Stable J) (A : List (ByteArray × Int)) (E : List En) (s : Int) (x : En) (hE : E.length ≤ maxLen) : PhiOk Try.prog J (poPhi A E s x) :=
  ⟨at1_snd (bcheck_sound hJ A E s hE), echeck_snd hJ, at1_snd (bfind_sound hJ A E s x.1), known_snd hJ, trivial⟩
def posR (A : List (ByteArray × Int)) (E : List En) (s : Int) (x : En) : V := .tup [if postE A E s x = 0 then bkV A (postB E x) s else zbV, .int .i64 (postE A E s x)]
theorem bse_snd {J : World → Prop} (hJ : Stable J) {A : List (ByteArray × Int)} {E : List En} {s : Int} {x : En} (hz : bkChk A E s = 0) (hx : enX x = 0) :
    SoundAt Try.prog J 51 [.row 3 (E.map enW), enW x, .fn 52 []] (.tup [.int .i64 (posE x E), .bool (bsB x E)]) [] := by
  obtain ⟨_, _, h3, h4, _, h6⟩ := bkChk_iff.1 hz
  exact bse_sound hJ E x h6 (fun y hy => (enX_ok (h4 y hy).1).1) (enX_ok hx).1 h3
theorem insE_rows (x : En) (E : List En) : (E.map enW).take (posE x E) ++ [enW x] ++ (E.map enW).drop (posE x E) = (insE x E).map enW := by
  unfold insE
  rw [List.map_append, List.map_cons, List.map_take, List.map_drop, List.append_assoc]
  rfl
set_option maxRecDepth 20000 in
set_option maxHeartbeats 8000000 in
theorem post_sound {J : World → Prop} (hJ : Stable J) (A : List (ByteArray × Int)) (E : List En) (s : Int) (x : En) (hE : E.length ≤ maxLen) : SoundAt Try.prog J 19 [bkV A E s, enW x] (posR A E s x) [] := by
  have hP := poPhi_ok hJ A E s x hE
  obtain ⟨k, d, l⟩ := x
  unfold bkV
  rw [enW_mk]
  by_cases hz : bkChk A E s = 0
  case neg =>
    have e1 : postE A E s (k, d, l) = bkChk A E s := if_pos hz
    have eR : posR A E s (k, d, l) = .tup [.agg [.zero, .zero, .int .i64 0], .int .i64 (bkChk A E s)] := by unfold posR; rw [e1, if_neg hz]; rfl
    rw [eR]
    refine evFn (l := poPhi A E s (k, d, l)) (nv := nv0) (fz := fz0) (dr := dr19) (dd := dd19) (lam := []) hP hJ trivial Try.func19 rfl rfl (Nat.le_of_ble_eq_true rfl) (Nat.le_of_ble_eq_true rfl) drOk19 ?_
    dsimp only [Try.f19, dr19, dd19, Option.getD_some]
    refine ev_start ?_
    simp (disch := omega) only [poPhi, at1_eq, hz, go_sem, Int.reduceEq, Int.reduceLT, Int.reduceLE, Int.reduceNeg, Nat.reduceAdd, Nat.reduceLT, Nat.reduceEqDiff, Nat.reduceMul, Nat.reduceLeDiff, reduceIte, Nat.reduceBEq, reduceCtorEq, evP_D, evD_guard, evD_cons, evD_zero, evD_nil]
  by_cases hx : enX (k, d, l) = 0
  case neg =>
    have e1 : postE A E s (k, d, l) = enX (k, d, l) := by unfold postE; rw [if_neg (fun h => h hz), if_pos hx]
    have eR : posR A E s (k, d, l) = .tup [.agg [.zero, .zero, .int .i64 0], .int .i64 (enE k d l)] := by unfold posR; rw [e1, if_neg hx]; rfl
    have hx' : ¬ enE k d l = 0 := hx
    rw [eR]
    refine evFn (l := poPhi A E s (k, d, l)) (nv := nv0) (fz := fz0) (dr := dr19) (dd := dd19) (lam := []) hP hJ trivial Try.func19 rfl rfl (Nat.le_of_ble_eq_true rfl) (Nat.le_of_ble_eq_true rfl) drOk19 ?_
    dsimp only [Try.f19, dr19, dd19, Option.getD_some]
    refine ev_start ?_
    simp (disch := omega) only [poPhi, at1_eq, echeckF_eq, hz, hx', go_sem, Int.reduceEq, Int.reduceLT, Int.reduceLE, Int.reduceNeg, Nat.reduceAdd, Nat.reduceLT, Nat.reduceEqDiff, Nat.reduceMul, Nat.reduceLeDiff, reduceIte, Nat.reduceBEq, reduceCtorEq, evP_D, evD_guard, evD_cons, evD_zero, evD_nil]
  have hx' : enE k d l = 0 := hx
  have hk := bkChk_ok hz
  have hA24 := acChk_len hk.1
  have hE12 : ∀ y ∈ E, y.2.2.length ≤ 12 := fun y hy => (enX_ok (hk.2.2.2 y hy).1).2.1
  cases hg : getE k E with
  | some y =>
    obtain ⟨i, hi, hyi⟩ := fiE_some hg
    have hlt : i < E.length := (List.getElem?_eq_some_iff.1 hyi).1
    have hfi : (0 : Int) ≤ i := by omega
    have e1 : postE A E s (k, d, l) = if y = (k, d, l) then 0 else 5 := by unfold postE; rw [if_neg (fun h => h hz), if_neg (fun h => h hx)]; simp only [hg]
    have e2 : postB E (k, d, l) = E := by unfold postB; simp only [hg]
    have hS := esame_sound hJ y (k, d, l)
    obtain ⟨k', d', l'⟩ := y
    have hyg := enW_get hyi
    simp only [enW_mk] at hS
    have hP' : PhiOk Try.prog J ((47, at1 _ (.bool (decide ((k', d', l') = (k, d, l))), [])) :: poPhi A E s (k, d, l)) := ⟨at1_snd hS, hP⟩
    by_cases hy : (k', d', l') = (k, d, l)
    · rw [if_pos hy] at e1
      have eR : posR A E s (k, d, l) = .tup [.agg [.row 2 (A.map acV), .row 3 (E.map enW), .int .i64 s], .int .i64 0] := by unfold posR; rw [e1, if_pos rfl, e2]; rfl
      have hC := copied_sound hJ A E s hA24 hE12 hk.2.2.1
      unfold bkV at hC
      rw [eR]
      refine evFn (l := (48, at1 _ (_, [])) :: (47, at1 _ (_, [])) :: poPhi A E s (k, d, l)) (nv := nv0) (fz := fz0) (dr := dr19) (dd := dd19) (lam := []) ⟨at1_snd hC, hP'⟩ hJ trivial Try.func19 rfl rfl (Nat.le_of_ble_eq_true rfl) (Nat.le_of_ble_eq_true rfl) drOk19 ?_
      dsimp only [Try.f19, dr19, dd19, Option.getD_some]
      refine ev_start ?_
      simp (disch := (first | omega | assumption)) only [poPhi, at1_eq, echeckF_eq, hz, hx', hi, hfi, idx_nat, List.length_map, hyg, decide_eq_true hy, go_sem, Int.reduceEq, Int.reduceLT, Int.reduceLE, Int.reduceNeg, Nat.reduceAdd, Nat.reduceLT, Nat.reduceEqDiff, Nat.reduceMul, Nat.reduceLeDiff, reduceIte, Nat.reduceBEq, reduceCtorEq, evP_D, evD_guard, evD_cons, evD_zero, evD_nil]
    · rw [if_neg hy] at e1
      have eR : posR A E s (k, d, l) = .tup [.agg [.zero, .zero, .int .i64 0], .int .i64 5] := by unfold posR; rw [e1, if_neg (by decide)]; rfl
      rw [eR]
      refine evFn (l := (47, at1 _ (_, [])) :: poPhi A E s (k, d, l)) (nv := nv0) (fz := fz0) (dr := dr19) (dd := dd19) (lam := []) hP' hJ trivial Try.func19 rfl rfl (Nat.le_of_ble_eq_true rfl) (Nat.le_of_ble_eq_true rfl) drOk19 ?_
      dsimp only [Try.f19, dr19, dd19, Option.getD_some]
      refine ev_start ?_
      simp (disch := (first | omega | assumption)) only [poPhi, at1_eq, echeckF_eq, hz, hx', hi, hfi, idx_nat, List.length_map, hyg, decide_eq_false hy, go_sem, Int.reduceEq, Int.reduceLT, Int.reduceLE, Int.reduceNeg, Nat.reduceAdd, Nat.reduceLT, Nat.reduceEqDiff, Nat.reduceMul, Nat.reduceLeDiff, reduceIte, Nat.reduceBEq, reduceCtorEq, evP_D, evD_guard, evD_cons, evD_zero, evD_nil]
  | none =>
    have hfn := fiE_none hg
    have e0 : postE A E s (k, d, l) = if knownB A (k, d, l) = false then 4 else if d ≤ s then 9 else if E.length = 60 then 2 else 0 := by unfold postE; rw [if_neg (fun h => h hz), if_neg (fun h => h hx)]; simp only [hg]
    cases hkn : knownB A (k, d, l) with
    | false =>
      have e1 : postE A E s (k, d, l) = 4 := by rw [e0, if_pos hkn]
      have eR : posR A E s (k, d, l) = .tup [.agg [.zero, .zero, .int .i64 0], .int .i64 4] := by unfold posR; rw [e1, if_neg (by decide)]; rfl
      rw [eR]
      refine evFn (l := poPhi A E s (k, d, l)) (nv := nv0) (fz := fz0) (dr := dr19) (dd := dd19) (lam := []) hP hJ trivial Try.func19 rfl rfl (Nat.le_of_ble_eq_true rfl) (Nat.le_of_ble_eq_true rfl) drOk19 ?_
      dsimp only [Try.f19, dr19, dd19, Option.getD_some]
      refine ev_start ?_
      simp (disch := omega) only [poPhi, at1_eq, echeckF_eq, knownF_eq, hkn, hz, hx', hfn, go_sem, Int.reduceEq, Int.reduceLT, Int.reduceLE, Int.reduceNeg, Nat.reduceAdd, Nat.reduceLT, Nat.reduceEqDiff, Nat.reduceMul, Nat.reduceLeDiff, reduceIte, Nat.reduceBEq, reduceCtorEq, evP_D, evD_guard, evD_cons, evD_zero, evD_nil]
    | true =>
      by_cases hds : d ≤ s
      · have e1 : postE A E s (k, d, l) = 9 := by rw [e0, if_neg (by rw [hkn]; simp), if_pos hds]
        have eR : posR A E s (k, d, l) = .tup [.agg [.zero, .zero, .int .i64 0], .int .i64 9] := by unfold posR; rw [e1, if_neg (by decide)]; rfl
        rw [eR]
        refine evFn (l := poPhi A E s (k, d, l)) (nv := nv0) (fz := fz0) (dr := dr19) (dd := dd19) (lam := []) hP hJ trivial Try.func19 rfl rfl (Nat.le_of_ble_eq_true rfl) (Nat.le_of_ble_eq_true rfl) drOk19 ?_
        dsimp only [Try.f19, dr19, dd19, Option.getD_some]
        refine ev_start ?_
        simp (disch := omega) only [poPhi, at1_eq, echeckF_eq, knownF_eq, hkn, hz, hx', hfn, hds, go_sem, Int.reduceEq, Int.reduceLT, Int.reduceLE, Int.reduceNeg, Nat.reduceAdd, Nat.reduceLT, Nat.reduceEqDiff, Nat.reduceMul, Nat.reduceLeDiff, reduceIte, Nat.reduceBEq, reduceCtorEq, evP_D, evD_guard, evD_cons, evD_zero, evD_nil]
      by_cases h60 : E.length = 60
      · have e1 : postE A E s (k, d, l) = 2 := by rw [e0, if_neg (by rw [hkn]; simp), if_neg hds, if_pos h60]
        have eR : posR A E s (k, d, l) = .tup [.agg [.zero, .zero, .int .i64 0], .int .i64 2] := by unfold posR; rw [e1, if_neg (by decide)]; rfl
        have h60' : ((E.length : Nat) : Int) = 60 := by omega
        rw [eR]
        refine evFn (l := poPhi A E s (k, d, l)) (nv := nv0) (fz := fz0) (dr := dr19) (dd := dd19) (lam := []) hP hJ trivial Try.func19 rfl rfl (Nat.le_of_ble_eq_true rfl) (Nat.le_of_ble_eq_true rfl) drOk19 ?_
        dsimp only [Try.f19, dr19, dd19, Option.getD_some]
        refine ev_start ?_
        simp (disch := omega) only [poPhi, at1_eq, echeckF_eq, knownF_eq, hkn, hz, hx', hfn, hds, List.length_map, h60', go_sem, Int.reduceEq, Int.reduceLT, Int.reduceLE, Int.reduceNeg, Nat.reduceAdd, Nat.reduceLT, Nat.reduceEqDiff, Nat.reduceMul, Nat.reduceLeDiff, reduceIte, Nat.reduceBEq, reduceCtorEq, evP_D, evD_guard, evD_cons, evD_zero, evD_nil]
      have h60' : ¬ ((E.length : Nat) : Int) = 60 := by omega
      have e1 : postE A E s (k, d, l) = 0 := by rw [e0, if_neg (by rw [hkn]; simp), if_neg hds, if_neg h60]
      have e2 : postB E (k, d, l) = insE (k, d, l) E := by unfold postB; simp only [hg]
      have eR : posR A E s (k, d, l) = .tup [.agg [.row 2 (A.map acV), .row 3 ((insE (k, d, l) E).map enW), .int .i64 s], .int .i64 0] := by unfold posR; rw [e1, if_pos rfl, e2]; rfl
      have hll : l.length ≤ 12 := (enX_ok hx).2.1
      have hcl := cloneF_eq l (by omega)
      have hbs := bse_snd hJ hz hx
      have hT := insE_take (J := J) (posE (k, d, l) E) (E.map enW) [enW (k, d, l)] (by rw [List.length_map]; exact posE_le _ _) (by simp) (by rw [List.length_map]; simp; have := hk.2.2.1; omega)
      rw [insE_rows] at hT
      rw [eR]
      rw [enW_mk] at hbs hT
      cases E with
      | nil =>
        have hC := copied_raw hJ A [] s hA24 hE12 hk.2.2.1
        rw [if_pos rfl] at hC
        unfold bkV at hC
        have hI := take_zero hJ (by decide) hT (fun a ha => by
          simp only [List.mem_cons, List.not_mem_nil, or_false] at ha
          rcases ha with rfl | rfl <;> rfl)
        have hb0 : SoundAt Try.prog J 51 [.zero, .agg [.str k, .int .i64 d, .row 2 (l.map acV)], .fn 52 []] (.tup [.int .i64 (posE (k, d, l) []), .bool (bsB (k, d, l) [])]) [] :=
          sound_by hbs rfl fun w ok j c v hc hv => by
            match j with
            | 0 => simp at hc; subst hc; exact ⟨_, rfl, zero_row 3 _ _ _ hv⟩
            | 1 => simp at hc; subst hc; exact ⟨_, rfl, hv⟩
            | 2 => simp at hc; subst hc; exact ⟨_, rfl, hv⟩
            | j + 3 => simp at hc
        refine evFn (l := (48, at1 _ (_, [])) :: (50, cloneF) :: (51, at1 _ (_, [])) :: (53, at1 _ (_, _)) :: poPhi A [] s (k, d, l)) (nv := nv0) (fz := fzL [(77, [608]), (79, [616])]) (dr := dr19) (dd := dd19) (lam := []) ⟨at1_snd hC, cloneL_snd hJ, at1_snd hb0, at1_snd hI, hP⟩ hJ trivial Try.func19 rfl rfl (Nat.le_of_ble_eq_true rfl) (Nat.le_of_ble_eq_true rfl) drOk19 ?_
        dsimp only [Try.f19, dr19, dd19, Option.getD_some]
        refine ev_start ?_
        simp (disch := (first | omega | assumption)) only [poPhi, at1_eq, echeckF_eq, knownF_eq, hkn, hz, hx', hfn, hds, List.length_map, h60', hcl, freezeL, St.freeze, List.filter_cons, List.filter_nil, bne, go_sem, Int.reduceEq, Int.reduceLT, Int.reduceLE, Int.reduceNeg, Nat.reduceAdd, Nat.reduceLT, Nat.reduceEqDiff, Nat.reduceMul, Nat.reduceLeDiff, reduceIte, Nat.reduceBEq, reduceCtorEq, evP_D, evD_guard, evD_cons, evD_zero, evD_nil]
      | cons x0 r0 =>
        have hC := copied_own hJ A x0 r0 s hA24 hE12 hk.2.2.1
        unfold bkV at hC
        refine evFn (l := (48, at1 _ (_, _)) :: (50, cloneF) :: (51, at1 _ (_, [])) :: poPhi A (x0 :: r0) s (k, d, l)) (nv := nv0) (fz := fzL [(79, [480])]) (dr := dr19) (dd := dd19) (lam := [(53, (true, take1 43 3 ((x0 :: r0).map enW) [.int .i64 (posE (k, d, l) (x0 :: r0)), .row 3 [.agg [.str k, .int .i64 d, .row 2 (l.map acV)]]] ((insE (k, d, l) (x0 :: r0)).map enW)))]) ⟨at1_snd hC, cloneL_snd hJ, at1_snd hbs, hP⟩ hJ (take1_ok hT trivial) Try.func19 rfl rfl (Nat.le_of_ble_eq_true rfl) (Nat.le_of_ble_eq_true rfl) drOk19 ?_
        dsimp only [Try.f19, dr19, dd19, Option.getD_some]
        refine ev_start ?_
        generalize hEE : x0 :: r0 = E at *
        simp (disch := (first | omega | assumption)) only [poPhi, at1_eq, take1_eq, echeckF_eq, knownF_eq, hkn, hz, hx', hfn, hds, List.length_map, h60', hcl, List.mapM_cons, List.mapM_nil, Option.bind_eq_bind, Option.pure_def, freezeL, St.freeze, List.filter_cons, List.filter_nil, bne, go_sem, Int.reduceEq, Int.reduceLT, Int.reduceLE, Int.reduceNeg, Nat.reduceAdd, Nat.reduceLT, Nat.reduceEqDiff, Nat.reduceMul, Nat.reduceLeDiff, reduceIte, Nat.reduceBEq, reduceCtorEq, evP_D, evD_guard, evD_cons, evD_zero, evD_nil]
end Go.Proofs.Ytdjdipehfnnhpaa
