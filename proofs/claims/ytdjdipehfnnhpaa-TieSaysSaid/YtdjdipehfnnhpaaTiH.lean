/-
  The ties by marks, and the law over both, run by the machine.
-/
import Derived.Test.YtdjdipehfnnhpaaTiG
namespace Go.Proofs.Ytdjdipehfnnhpaa
open Go Go.Ev Go.RowKit Go.Tie Go.Spl Go.Srt
set_option maxHeartbeats 4000000
set_option linter.unusedSimpArgs false
set_option linter.unusedVariables false
attribute [local go_sem] subE partR boundsV ownP sliceW copyV clearV lenM takeV tk1 mapsV mkMapV hintOk lookV updV mapKE keyOk V.key app_lend callW_fn lendV postL_ret postL_normal postT_ret postT_normal takeR St.lent mkX_L bin_eql_vz bin_eql_zv bin_eql_rz bin_eql_zr bin_eql_zz bin_neq_vz bin_neq_zv bin_neq_rz bin_neq_zr bin_neq_zz eqH nilEq nonE plainI gOf_bool gOf_skip g_some g_none Int.ofNat_zero Int.cast_ofNat_Int Bool.false_and Bool.and_false sliceV noBox elemsZ V.scrub V.scrubL Blk.scrub appendV isSlice maxLen_eq leT List.contains_nil List.contains_cons nvL_at fzL_at fillV V.plain V.plainL Blk.plain List.size_toArray mapO_nil mapO_cons Option.isNone_none Option.isNone_some beqT beqF oI_not mkX_e phi_nil phi_cons bin_eql_bool bin_neq_bool bin_eql_agg bin_neq_agg eqV eqFs eqK_int eqK_bool' eqK_str mkX_T mkX_Φ mkX_n mkX_f mkX_d mkX_r nv0_at fz0_at evQ_dr evP_W evW_nil evW_cons evW_guard okW_eq tame_none tame_new tame_write wb_none wb_new wb_write okU_some offW_none offW_some touchOf V.noRef V.noRefL Option.isSome_some Option.isSome_none mild_none mild_new Option.getD_some Option.getD_none evQ_seq evQ_region evQ_block evQ_cond evQ_ret evQ_skip evQ_exit evO_cons evO_nil evO_guard freezeL_nil oS_some oS_none oS_ite oS_ite' oB_bool oI_true oI_false oE_normal oE_exit oE_ret bQ_normal bQ_ret bQ_exit lQ_normal lQ_ret lQ_exit List.zipIdx_cons List.zipIdx_nil List.map_cons List.map_nil evalOp opd_const opd_tmp opd_func ofC_int ofC_bool ofC_str ofC_nil app_none app_new app_write app_change putE_some putE_none setA_cons setA_nil setH_cons setH_nil mapA_cons mapA_nil look_cons look_nil e_mk h_mk drop_nil drop_mk keep_mk dstOk_some dstOk_none guardT_eq true_and and_true Bool.not_false Bool.not_true selB_true selB_false mem_nil mem_cons kpL_nil kpL_cons drL_nil drL_cons closed_mk V.refsIn V.refsInL Blk.refsIn List.all_cons List.all_nil lenV bin_add bin_sub bin_mul bin_quo bin_rem bin_eql bin_neq bin_lss bin_leq bin_gtr bin_geq un_neg un_not post_ret post_normal St.init Bool.false_eq_true List.length_map Bool.or_false Bool.or_true Bool.false_or Bool.true_or beq_self_eq_true Option.map_some Option.map_none Option.bind_some List.getElem?_cons_zero List.getElem?_cons_succ scalar stor isAggV V.cells List.cons_append List.nil_append if_true if_false wrap_of callV V.dataL V.data Bool.and_true Bool.true_and fresh names V.ren V.renL retV resV packL packV packC getBlks wrapR subV putV decide_true decide_false TK.agg List.length_cons List.length_nil List.take_succ_cons List.take_zero List.drop_succ_cons List.drop_zero List.take_nil List.drop_nil Nat.zero_add Nat.add_zero List.append_nil List.getElem?_nil elemsV ro ro0 ro1 roC ty2 ty3 ty4 ty5 ty6 ty7 ty8 ty9 ty10 ty11 ty12 ty13 ty14 ty18 ty19 ty21 ty24 ty25 ty33 ty34 ty35 ty36 ty41 ty42 ty43 ty45 ty46 ty53 ty63 ty64 ty69 ty74 ty77 ty78 ty96 ty98 ty108 ty115 ty142 ty143 ty148 ty149 ty152 ty153 ty154 ty155 eqs46 eqs64 eqs78
def tieE (a b : List It) (w : Int) : Int := if itE a = 0 then (if itE b = 0 then (if 0 ≤ w ∧ w ≤ 292193 then 0 else 1) else itE b) else itE a
noncomputable def tieR (a b : List It) (w : Int) : V × List Blk :=
  if tieE a b w = 0 then (.tup [.vec 0, .int .i64 0], [.vec 3 1 ((tieL a b w).map (V.int .i64))]) else (.tup [.zero, .int .i64 (tieE a b w)], [])
set_option maxRecDepth 100000 in
set_option maxHeartbeats 8000000 in
theorem tie_ok {J : World → Prop} (hJ : Stable J) (a b : List It) (w : Int) (ea : itE a = 0) (eb : itE b = 0) (hw : 0 ≤ w ∧ w ≤ 292193) : SoundAt Try.prog J 22 [.row 2 (a.map itV), .row 2 (b.map itV), .int .i64 w] (.tup [.vec 0, .int .i64 0]) [.vec 3 1 ((tieL a b w).map (V.int .i64))] := by
  have ha := itE_0 ea
  have hb := itE_0 eb
  have h40 := ha.1
  have h40b := hb.1
  obtain ⟨CF, hCF, sCF⟩ := achkx hJ
  obtain ⟨OF, hOF, sOF⟩ := orderx hJ
  have ca := hCF a
  have cb := hCF b
  rw [ea] at ca
  rw [eb] at cb
  have sa := hOF a ha
  have sb := hOF b hb
  have hR := rep_sound hJ (-1) a.length (by omega)
  have eR : List.replicate a.length (V.int .i64 (-1)) = (List.replicate a.length (-1)).map (V.int .i64) := by rw [List.map_replicate]
  rw [eR] at hR
  have f1 : (0 : Int) ≤ b.length := by omega
  have f2 : (b.length : Int) * 1 ≤ 140737488355328 := by omega
  have f2' : (b.length : Int) ≤ 140737488355328 := by omega
  have f3 : (b.length : Int) ≤ 9223372036854775807 := by omega
  have w1 : ¬ w < 0 := by omega
  have w2 : ¬ 292193 < w := by omega
  have lA := ordD_len a
  have lB := ordD_len b
  have iA : ∀ x ∈ ordD a, x < a.length := fun x h => ordD_lt a h
  have iB : ∀ x ∈ ordD b, x < b.length := fun x h => ordD_lt b h
  have nB := ordD_nodup b
  unfold tieL
  generalize ordD a = A at *
  generalize ordD b = B at *
  have lAt := toI_len A
  rw [lA] at lAt
  have lBt := toI_len B
  rw [lB] at lBt
  refine evFn (l := [(29, CF), (59, OF), (13, at1 _ (_, [.vec 3 1 ((List.replicate a.length (-1)).map (V.int .i64))]))]) (nv := nv0) (fz := fz0) (dr := dr22) (dd := dd22) (lam := []) ⟨sCF, sOF, at1_snd hR, trivial⟩ hJ trivial Try.func22 rfl rfl (Nat.le_of_ble_eq_true rfl) (Nat.le_of_ble_eq_true rfl) drOk22 ?_
  dsimp only [Try.f22, dr22, dd22, Option.getD_some]
  refine ev_start ?_
  simp (disch := omega) only [at1_eq, ca, cb, sa, sb, w1, w2, makeV, f1, f2, f2', f3, Int.mul_one, Int.toNat_natCast, List.length_replicate, List.length_map, lAt, go_sem, Int.reduceEq, Int.reduceLT, Int.reduceLE, Int.reduceNeg, Nat.reduceAdd, Nat.reduceLT, Nat.reduceEqDiff, Nat.reduceMul, Nat.reduceLeDiff, reduceIte, Nat.reduceBEq, reduceCtorEq, evP_D, evD_guard, evD_cons, evD_zero, evD_nil]
  refine evQ_loop [0, 1, 2, 10, 11, 12, 44, 45, 46] [296, 320, 336, 352] (fun σ => ∃ (t : Nat) (U : List Bool) (out : List Int), (t ≤ a.length ∧ (tieGo (mt a b w) (A.drop t) (B.filter (free U)) out = tieGo (mt a b w) A B (List.replicate a.length (-1))) ∧ out.length = a.length ∧ U.length = b.length) ∧
    σ = ⟨[(0, .row 2 (a.map itV)), (1, .row 2 (b.map itV)), (2, .int .i64 w), (10, .vec 296), (11, .vec 320), (12, .vec 336), (44, .vec 352), (45, .int .i64 a.length), (46, .int .i64 t)],
      [(296, .vec 3 1 (out.map (V.int .i64))), (320, .vec 4 1 (U.map V.bool)), (336, .vec 3 1 ((toI B).map (V.int .i64))), (352, .vec 3 1 ((toI A).map (V.int .i64)))]⟩)
    (fun σ => a.length - (match Ev.look 46 σ.env with | some (.int _ n) => n.toNat | _ => 0)) ?_ ?_
  · simp only [go_sem, Int.reduceEq, Int.reduceLT, Int.reduceLE, Int.reduceNeg, Nat.reduceAdd, Nat.reduceLT, Nat.reduceEqDiff, Nat.reduceMul, Nat.reduceLeDiff, reduceIte, Nat.reduceBEq, reduceCtorEq, evP_D, evD_guard, evD_cons, evD_zero, evD_nil]
    exact ⟨0, List.replicate b.length false, _, ⟨Nat.zero_le _, by rw [List.drop_zero, free_all b.length], by simp, by simp⟩, by simp only [List.map_replicate]; rfl⟩
  · rintro σ ⟨t, U, out, ⟨ht, hgo, hout, hU⟩, rfl⟩
    have hms : a.length - ((t : Int) + 1).toNat < a.length - (t : Int).toNat ∨ a.length ≤ t := by
      have e3 : ((t : Int) + 1).toNat = t + 1 := by omega
      rw [e3, Int.toNat_natCast]; omega
    by_cases htl : t < a.length
    · have htl' : (t : Int) < a.length := by omega
      have hms := hms.resolve_right (by omega)
      obtain ⟨i, hi⟩ : ∃ i, A[t]? = some i := ⟨_, List.getElem?_eq_getElem (by omega)⟩
      have hia := iA i (List.mem_of_getElem? hi)
      have hig := toI_get hi
      have hai := itV_get hia
      have bi := it_bd ha hia
      rw [tieGo_drop hi] at hgo
      simp (disch := (first | omega | assumption)) only [htl', idx_nat, List.length_map, hig, lAt, lBt, go_sem, Int.reduceEq, Int.reduceLT, Int.reduceLE, Int.reduceNeg, Nat.reduceAdd, Nat.reduceLT, Nat.reduceEqDiff, Nat.reduceMul, Nat.reduceLeDiff, reduceIte, Nat.reduceBEq, reduceCtorEq, evP_D, evD_guard, evD_cons, evD_zero, evD_nil]
      refine evQ_loop [0, 1, 2, 10, 11, 12, 14, 44, 45, 46, 50, 51, 52] [296, 320, 336, 352] (fun σ => ∃ (s : Nat), (s ≤ b.length ∧ ∀ j x, j < s → B[j]? = some x → (free U x && mt a b w i x) = false) ∧
        σ = ⟨[(0, .row 2 (a.map itV)), (1, .row 2 (b.map itV)), (2, .int .i64 w), (10, .vec 296), (11, .vec 320), (12, .vec 336), (14, .int .i64 i), (44, .vec 352), (45, .int .i64 a.length), (46, .int .i64 t), (50, .vec 336), (51, .int .i64 b.length), (52, .int .i64 s)],
          [(296, .vec 3 1 (out.map (V.int .i64))), (320, .vec 4 1 (U.map V.bool)), (336, .vec 3 1 ((toI B).map (V.int .i64))), (352, .vec 3 1 ((toI A).map (V.int .i64)))]⟩)
        (fun σ => b.length - (match Ev.look 52 σ.env with | some (.int _ n) => n.toNat | _ => 0)) ?_ ?_
      · simp only [go_sem, Int.reduceEq, Int.reduceLT, Int.reduceLE, Int.reduceNeg, Nat.reduceAdd, Nat.reduceLT, Nat.reduceEqDiff, Nat.reduceMul, Nat.reduceLeDiff, reduceIte, Nat.reduceBEq, reduceCtorEq, evP_D, evD_guard, evD_cons, evD_zero, evD_nil]
        exact ⟨0, ⟨Nat.zero_le _, fun j x h => by omega⟩, rfl⟩
      · rintro σ ⟨s, ⟨hs, hall⟩, rfl⟩
        by_cases hsl : s < b.length
        · have hsl' : (s : Int) < b.length := by omega
          obtain ⟨x, hx⟩ : ∃ x, B[s]? = some x := ⟨_, List.getElem?_eq_getElem (by omega)⟩
          have hxb := iB x (List.mem_of_getElem? hx)
          have hxg := toI_get hx
          have hbx := itV_get hxb
          have bx := it_bd hb hxb
          obtain ⟨u, hu⟩ : ∃ u, U[x]? = some u := ⟨_, List.getElem?_eq_getElem (by omega)⟩
          have huV := get_map V.bool U x u hu
          have hfr : free U x = !u := by unfold free; rw [List.getD_eq_getElem?_getD, hu]; rfl
          have hms2 : b.length - ((s : Int) + 1).toNat < b.length - (s : Int).toNat := by
            have e3 : ((s : Int) + 1).toNat = s + 1 := by omega
            rw [e3, Int.toNat_natCast]; omega
          have hnx : (free U x && mt a b w i x) = false → ∀ j y, j < s + 1 → B[j]? = some y → (free U y && mt a b w i y) = false := fun hf j y hj hy => by
            by_cases e : j = s
            · subst e; rw [hx] at hy; cases hy; exact hf
            · exact hall j y (by omega) hy
          cases u with
          | true =>
            have hm : (free U x && mt a b w i x) = false := by rw [hfr]; rfl
            simp (disch := (first | omega | assumption)) only [hsl', idx_nat, List.length_map, hxg, lBt, hU, hai, hbx, huV, go_sem, Int.reduceEq, Int.reduceLT, Int.reduceLE, Int.reduceNeg, Nat.reduceAdd, Nat.reduceLT, Nat.reduceEqDiff, Nat.reduceMul, Nat.reduceLeDiff, reduceIte, Nat.reduceBEq, reduceCtorEq, evP_D, evD_guard, evD_cons, evD_zero, evD_nil]
            exact ⟨⟨s + 1, ⟨hsl, hnx hm⟩, rfl⟩, hms2⟩
          | false =>
            by_cases hamt : am a i = am b x
            · by_cases c1 : dy a i - dy b x ≤ w
              · by_cases c2 : -(dy a i - dy b x) ≤ w
                · have hm : mt a b w i x = true := decide_eq_true ⟨hamt, c1, c2⟩
                  rw [mark_some nB hx hu hm hall] at hgo
                  obtain ⟨z, hz⟩ : ∃ z, out[i]? = some z := ⟨_, List.getElem?_eq_getElem (by omega)⟩
                  have hz' := get_map (V.int .i64) out i z hz
                  have hset : (out.map (V.int .i64)).set i (.int .i64 (x : Int)) = (out.set i (x : Int)).map (V.int .i64) := by rw [List.map_set]
                  have hsetU : (U.map V.bool).set x (.bool true) = (U.set x true).map V.bool := by rw [List.map_set]
                  have c2' : 0 - (dy a i - dy b x) ≤ w := by omega
                  simp (disch := (first | omega | assumption)) only [hsl', idx_nat, List.length_map, hxg, lBt, hU, hout, hai, hbx, huV, hamt, c1, c2, c2', hz', hset, hsetU, go_sem, Int.reduceEq, Int.reduceLT, Int.reduceLE, Int.reduceNeg, Nat.reduceAdd, Nat.reduceLT, Nat.reduceEqDiff, Nat.reduceMul, Nat.reduceLeDiff, reduceIte, Nat.reduceBEq, reduceCtorEq, evP_D, evD_guard, evD_cons, evD_zero, evD_nil]
                  exact ⟨⟨t + 1, _, _, ⟨htl, hgo, by simpa using hout, by simpa using hU⟩, rfl⟩, hms⟩
                · have hm : (free U x && mt a b w i x) = false := by
                    rw [Bool.and_eq_false_iff]; right; exact decide_eq_false (by rintro ⟨_, _, h⟩; exact c2 h)
                  have c2' : ¬ 0 - (dy a i - dy b x) ≤ w := by omega
                  simp (disch := (first | omega | assumption)) only [hsl', idx_nat, List.length_map, hxg, lBt, hU, hai, hbx, huV, hamt, c1, c2, c2', go_sem, Int.reduceEq, Int.reduceLT, Int.reduceLE, Int.reduceNeg, Nat.reduceAdd, Nat.reduceLT, Nat.reduceEqDiff, Nat.reduceMul, Nat.reduceLeDiff, reduceIte, Nat.reduceBEq, reduceCtorEq, evP_D, evD_guard, evD_cons, evD_zero, evD_nil]
                  exact ⟨⟨s + 1, ⟨hsl, hnx hm⟩, rfl⟩, hms2⟩
              · have hm : (free U x && mt a b w i x) = false := by
                  rw [Bool.and_eq_false_iff]; right; exact decide_eq_false (by rintro ⟨_, h, _⟩; exact c1 h)
                simp (disch := (first | omega | assumption)) only [hsl', idx_nat, List.length_map, hxg, lBt, hU, hai, hbx, huV, hamt, c1, go_sem, Int.reduceEq, Int.reduceLT, Int.reduceLE, Int.reduceNeg, Nat.reduceAdd, Nat.reduceLT, Nat.reduceEqDiff, Nat.reduceMul, Nat.reduceLeDiff, reduceIte, Nat.reduceBEq, reduceCtorEq, evP_D, evD_guard, evD_cons, evD_zero, evD_nil]
                exact ⟨⟨s + 1, ⟨hsl, hnx hm⟩, rfl⟩, hms2⟩
            · have hm : (free U x && mt a b w i x) = false := by
                rw [Bool.and_eq_false_iff]; right; exact decide_eq_false (by rintro ⟨h, _⟩; exact hamt h)
              simp (disch := (first | omega | assumption)) only [hsl', idx_nat, List.length_map, hxg, lBt, hU, hai, hbx, huV, hamt, go_sem, Int.reduceEq, Int.reduceLT, Int.reduceLE, Int.reduceNeg, Nat.reduceAdd, Nat.reduceLT, Nat.reduceEqDiff, Nat.reduceMul, Nat.reduceLeDiff, reduceIte, Nat.reduceBEq, reduceCtorEq, evP_D, evD_guard, evD_cons, evD_zero, evD_nil]
              exact ⟨⟨s + 1, ⟨hsl, hnx hm⟩, rfl⟩, hms2⟩
        · have hs' : s = b.length := by omega
          subst hs'
          have hsl' : ¬ ((b.length : Int) < b.length) := by omega
          rw [mark_none fun j x hj hx => hall j x (by omega) hx] at hgo
          simp (disch := (first | omega | assumption)) only [hsl', go_sem, Int.reduceEq, Int.reduceLT, Int.reduceLE, Int.reduceNeg, Nat.reduceAdd, Nat.reduceLT, Nat.reduceEqDiff, Nat.reduceMul, Nat.reduceLeDiff, reduceIte, Nat.reduceBEq, reduceCtorEq, evP_D, evD_guard, evD_cons, evD_zero, evD_nil]
          exact ⟨⟨t + 1, U, out, ⟨htl, hgo, hout, hU⟩, rfl⟩, hms⟩
    · have ht' : t = a.length := by omega
      subst ht'
      have htl' : ¬ ((a.length : Int) < a.length) := by omega
      rw [List.drop_of_length_le (by omega), tieGo] at hgo
      simp (disch := (first | omega | assumption)) only [htl', hgo, go_sem, Int.reduceEq, Int.reduceLT, Int.reduceLE, Int.reduceNeg, Nat.reduceAdd, Nat.reduceLT, Nat.reduceEqDiff, Nat.reduceMul, Nat.reduceLeDiff, reduceIte, Nat.reduceBEq, reduceCtorEq, evP_D, evD_guard, evD_cons, evD_zero, evD_nil]
theorem tie_sound {J : World → Prop} (hJ : Stable J) (a b : List It) (w : Int) : SoundAt Try.prog J 22 [.row 2 (a.map itV), .row 2 (b.map itV), .int .i64 w] (tieR a b w).1 (tieR a b w).2 := by
  by_cases ea : itE a = 0
  · by_cases eb : itE b = 0
    · by_cases hw : 0 ≤ w ∧ w ≤ 292193
      · have e : tieR a b w = (.tup [.vec 0, .int .i64 0], [.vec 3 1 ((tieL a b w).map (V.int .i64))]) := by unfold tieR tieE; rw [if_pos ea, if_pos eb, if_pos hw, if_pos rfl]
        rw [e]
        exact tie_ok hJ a b w ea eb hw
      · have e : tieR a b w = (.tup [.zero, .int .i64 1], []) := by unfold tieR tieE; rw [if_pos ea, if_pos eb, if_neg hw, if_neg (by omega)]
        rw [e]
        obtain ⟨CF, hCF, sCF⟩ := achkx hJ
        have ca := hCF a
        have cb := hCF b
        rw [ea] at ca
        rw [eb] at cb
        refine evFn (l := [(29, CF)]) (nv := nv0) (fz := fz0) (dr := dr22) (dd := dd22) (lam := []) ⟨sCF, trivial⟩ hJ trivial Try.func22 rfl rfl (Nat.le_of_ble_eq_true rfl) (Nat.le_of_ble_eq_true rfl) drOk22 ?_
        dsimp only [Try.f22, dr22, dd22, Option.getD_some]
        refine ev_start ?_
        by_cases w1 : w < 0
        · simp (disch := omega) only [ca, cb, w1, go_sem, Int.reduceEq, Int.reduceLT, Int.reduceLE, Int.reduceNeg, Nat.reduceAdd, Nat.reduceLT, Nat.reduceEqDiff, Nat.reduceMul, Nat.reduceLeDiff, reduceIte, Nat.reduceBEq, reduceCtorEq, evP_D, evD_guard, evD_cons, evD_zero, evD_nil]
        · have w2 : 292193 < w := by omega
          simp (disch := omega) only [ca, cb, w1, w2, go_sem, Int.reduceEq, Int.reduceLT, Int.reduceLE, Int.reduceNeg, Nat.reduceAdd, Nat.reduceLT, Nat.reduceEqDiff, Nat.reduceMul, Nat.reduceLeDiff, reduceIte, Nat.reduceBEq, reduceCtorEq, evP_D, evD_guard, evD_cons, evD_zero, evD_nil]
    · have e : tieR a b w = (.tup [.zero, .int .i64 (itE b)], []) := by unfold tieR tieE; rw [if_pos ea, if_neg eb, if_neg eb]
      rw [e]
      obtain ⟨CF, hCF, sCF⟩ := achkx hJ
      have ca := hCF a
      have cb := hCF b
      rw [ea] at ca
      refine evFn (l := [(29, CF)]) (nv := nv0) (fz := fz0) (dr := dr22) (dd := dd22) (lam := []) ⟨sCF, trivial⟩ hJ trivial Try.func22 rfl rfl (Nat.le_of_ble_eq_true rfl) (Nat.le_of_ble_eq_true rfl) drOk22 ?_
      dsimp only [Try.f22, dr22, dd22, Option.getD_some]
      refine ev_start ?_
      simp (disch := omega) only [ca, cb, eb, go_sem, Int.reduceEq, Int.reduceLT, Int.reduceLE, Int.reduceNeg, Nat.reduceAdd, Nat.reduceLT, Nat.reduceEqDiff, Nat.reduceMul, Nat.reduceLeDiff, reduceIte, Nat.reduceBEq, reduceCtorEq, evP_D, evD_guard, evD_cons, evD_zero, evD_nil]
  · have e : tieR a b w = (.tup [.zero, .int .i64 (itE a)], []) := by unfold tieR tieE; rw [if_neg ea, if_neg ea]
    rw [e]
    obtain ⟨CF, hCF, sCF⟩ := achkx hJ
    have ca := hCF a
    refine evFn (l := [(29, CF)]) (nv := nv0) (fz := fz0) (dr := dr22) (dd := dd22) (lam := []) ⟨sCF, trivial⟩ hJ trivial Try.func22 rfl rfl (Nat.le_of_ble_eq_true rfl) (Nat.le_of_ble_eq_true rfl) drOk22 ?_
    dsimp only [Try.f22, dr22, dd22, Option.getD_some]
    refine ev_start ?_
    simp (disch := omega) only [ca, ea, go_sem, Int.reduceEq, Int.reduceLT, Int.reduceLE, Int.reduceNeg, Nat.reduceAdd, Nat.reduceLT, Nat.reduceEqDiff, Nat.reduceMul, Nat.reduceLeDiff, reduceIte, Nat.reduceBEq, reduceCtorEq, evP_D, evD_guard, evD_cons, evD_zero, evD_nil]
theorem nil_rel {w : World} {ok : Nat → Prop} {val : Value} (sz : Nat) (h : RelD w ok .zero val) : RelD w ok (.row sz []) val := by
  cases h
  exact .nil _ _
theorem tie_nil {J : World → Prop} (hJ : Stable J) : SoundAt Try.prog J 22 [.zero, .zero, .int .i64 (-1)] (.tup [.zero, .int .i64 1]) [] := by
  have h := tie_sound hJ [] [] (-1)
  have e : tieR [] [] (-1) = (.tup [.zero, .int .i64 1], []) := by
    have e0 : itE [] = 0 := rfl
    unfold tieR tieE; rw [if_pos e0, if_pos e0, if_neg (by omega), if_neg (by omega)]
  rw [e] at h
  refine h.weaken rfl fun w ok j c c' val hc hc' hv => ?_
  match j with
  | 0 => simp at hc hc'; subst hc; subst hc'; exact nil_rel 2 hv
  | 1 => simp at hc hc'; subst hc; subst hc'; exact nil_rel 2 hv
  | 2 => simp at hc hc'; subst hc; subst hc'; exact hv
  | _ + 3 => simp at hc
noncomputable def tieF (a b : List It) (w : Int) : List V → Option (V × List Blk) := fun x => open Classical in if x = [.row 2 (a.map itV), .row 2 (b.map itV), .int .i64 w] then some (tieR a b w) else if x = [.zero, .zero, .int .i64 (-1)] then some (.tup [.zero, .int .i64 1], []) else none
theorem tieF_a (a b : List It) (w : Int) : tieF a b w [.row 2 (a.map itV), .row 2 (b.map itV), .int .i64 w] = some (tieR a b w) := by unfold tieF; rw [if_pos rfl]
theorem tieF_n (a b : List It) (w : Int) : tieF a b w [.zero, .zero, .int .i64 (-1)] = some (.tup [.zero, .int .i64 1], []) := by unfold tieF; rw [if_neg (by simp), if_pos rfl]
theorem tieF_snd {J : World → Prop} (hJ : Stable J) (a b : List It) (w : Int) : Snd Try.prog J 22 (tieF a b w) := by
  intro args r bs h
  unfold tieF at h
  split at h
  · rename_i he
    rw [he]
    have := tie_sound hJ a b w
    rw [Option.some.inj h] at this
    exact this
  · split at h
    · rename_i he
      rw [he]
      obtain ⟨rfl, rfl⟩ := some_pair h
      exact tie_nil hJ
    · cases h
theorem tie_law {J : World → Prop} (hJ : Stable J) (a b : List It) (w : Int) : SoundAt Try.prog J 5 [.row 2 (a.map itV), .row 2 (b.map itV), .int .i64 w] (.bool true) [] := by
  obtain ⟨IF, hIF, sIF⟩ := ritemsx hJ
  have ca := hIF a
  have cb := hIF b
  have hT := tieF_a a b w
  have hN := tieF_n a b w
  by_cases ea : itE a = 0
  · rw [ea] at ca
    by_cases eb : itE b = 0
    · rw [eb] at cb
      by_cases hw : 0 ≤ w ∧ w ≤ 292193
      · have e : tieR a b w = (.tup [.vec 0, .int .i64 0], [.vec 3 1 ((tieL a b w).map (V.int .i64))]) := by unfold tieR tieE; rw [if_pos ea, if_pos eb, if_pos hw, if_pos rfl]
        rw [e] at hT
        have hR := rtie_sound hJ a b w (itE_0 ea) (itE_0 eb) hw
        refine evFn (l := [(22, tieF a b w), (23, IF), (24, isTF), (26, at1 _ (_, _)), (25, eqIF)]) (nv := nv0) (fz := fz0) (dr := dr5) (dd := dd5) (lam := []) ⟨tieF_snd hJ a b w, sIF, tday_snd hJ, at1_snd hR, eqI_snd hJ, trivial⟩ hJ trivial Try.func5 rfl rfl (Nat.le_of_ble_eq_true rfl) (Nat.le_of_ble_eq_true rfl) drOk5 ?_
        dsimp only [Try.f5, dr5, dd5, Option.getD_some]
        refine ev_start ?_
        simp (disch := omega) only [hT, hN, ca, cb, isTF_eq, hw, at1_eq, eqIF_rows, and_self, go_sem, Int.reduceEq, Int.reduceLT, Int.reduceLE, Int.reduceNeg, Nat.reduceAdd, Nat.reduceLT, Nat.reduceEqDiff, Nat.reduceMul, Nat.reduceLeDiff, reduceIte, Nat.reduceBEq, reduceCtorEq, evP_D, evD_guard, evD_cons, evD_zero, evD_nil]
      · have e : tieR a b w = (.tup [.zero, .int .i64 1], []) := by unfold tieR tieE; rw [if_pos ea, if_pos eb, if_neg hw, if_neg (by omega)]
        rw [e] at hT
        have hw' : decide (0 ≤ w ∧ w ≤ 292193) = false := decide_eq_false hw
        refine evFn (l := [(22, tieF a b w), (23, IF), (24, isTF)]) (nv := nv0) (fz := fz0) (dr := dr5) (dd := dd5) (lam := []) ⟨tieF_snd hJ a b w, sIF, tday_snd hJ, trivial⟩ hJ trivial Try.func5 rfl rfl (Nat.le_of_ble_eq_true rfl) (Nat.le_of_ble_eq_true rfl) drOk5 ?_
        dsimp only [Try.f5, dr5, dd5, Option.getD_some]
        refine ev_start ?_
        simp (disch := omega) only [hT, hN, ca, cb, isTF_eq, hw', go_sem, Int.reduceEq, Int.reduceLT, Int.reduceLE, Int.reduceNeg, Nat.reduceAdd, Nat.reduceLT, Nat.reduceEqDiff, Nat.reduceMul, Nat.reduceLeDiff, reduceIte, Nat.reduceBEq, reduceCtorEq, evP_D, evD_guard, evD_cons, evD_zero, evD_nil]
    · have e : tieR a b w = (.tup [.zero, .int .i64 (itE b)], []) := by unfold tieR tieE; rw [if_pos ea, if_neg eb, if_neg eb]
      rw [e] at hT
      refine evFn (l := [(22, tieF a b w), (23, IF), (24, isTF)]) (nv := nv0) (fz := fz0) (dr := dr5) (dd := dd5) (lam := []) ⟨tieF_snd hJ a b w, sIF, tday_snd hJ, trivial⟩ hJ trivial Try.func5 rfl rfl (Nat.le_of_ble_eq_true rfl) (Nat.le_of_ble_eq_true rfl) drOk5 ?_
      dsimp only [Try.f5, dr5, dd5, Option.getD_some]
      refine ev_start ?_
      simp (disch := omega) only [hT, hN, ca, cb, eb, go_sem, Int.reduceEq, Int.reduceLT, Int.reduceLE, Int.reduceNeg, Nat.reduceAdd, Nat.reduceLT, Nat.reduceEqDiff, Nat.reduceMul, Nat.reduceLeDiff, reduceIte, Nat.reduceBEq, reduceCtorEq, evP_D, evD_guard, evD_cons, evD_zero, evD_nil]
  · have e : tieR a b w = (.tup [.zero, .int .i64 (itE a)], []) := by unfold tieR tieE; rw [if_neg ea, if_neg ea]
    rw [e] at hT
    refine evFn (l := [(22, tieF a b w), (23, IF), (24, isTF)]) (nv := nv0) (fz := fz0) (dr := dr5) (dd := dd5) (lam := []) ⟨tieF_snd hJ a b w, sIF, tday_snd hJ, trivial⟩ hJ trivial Try.func5 rfl rfl (Nat.le_of_ble_eq_true rfl) (Nat.le_of_ble_eq_true rfl) drOk5 ?_
    dsimp only [Try.f5, dr5, dd5, Option.getD_some]
    refine ev_start ?_
    simp (disch := omega) only [hT, hN, ca, ea, go_sem, Int.reduceEq, Int.reduceLT, Int.reduceLE, Int.reduceNeg, Nat.reduceAdd, Nat.reduceLT, Nat.reduceEqDiff, Nat.reduceMul, Nat.reduceLeDiff, reduceIte, Nat.reduceBEq, reduceCtorEq, evP_D, evD_guard, evD_cons, evD_zero, evD_nil]
end Go.Proofs.Ytdjdipehfnnhpaa
