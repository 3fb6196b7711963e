/-
  Codes and accounts, run by the machine.
-/
import Derived.Test.YtdjdipehfnnhpaaAcP
namespace Go.Proofs.Ytdjdipehfnnhpaa
open Go Go.Ev Go.RowKit Go.Acc
set_option maxHeartbeats 4000000
set_option linter.unusedSimpArgs false
set_option linter.unusedVariables false
attribute [local go_sem] subE partR boundsV ownP sliceW copyV clearV lenM takeV tk1 mapsV mkMapV hintOk lookV updV mapKE keyOk V.key app_lend callW_fn lendV postL_ret postL_normal postT_ret postT_normal takeR St.lent mkX_L bin_eql_vz bin_eql_zv bin_eql_rz bin_eql_zr bin_eql_zz bin_neq_vz bin_neq_zv bin_neq_rz bin_neq_zr bin_neq_zz eqH nilEq nonE plainI gOf_bool gOf_skip g_some g_none Int.ofNat_zero Int.cast_ofNat_Int Bool.false_and Bool.and_false sliceV noBox elemsZ V.scrub V.scrubL Blk.scrub appendV isSlice maxLen_eq leT List.contains_nil List.contains_cons nvL_at fzL_at fillV V.plain V.plainL Blk.plain List.size_toArray mapO_nil mapO_cons Option.isNone_none Option.isNone_some beqT beqF oI_not mkX_e phi_nil phi_cons bin_eql_bool bin_neq_bool bin_eql_agg bin_neq_agg eqV eqFs eqK_int eqK_bool' eqK_str mkX_T mkX_Φ mkX_n mkX_f mkX_d mkX_r nv0_at fz0_at evQ_dr evP_W evW_nil evW_cons evW_guard okW_eq tame_none tame_new tame_write wb_none wb_new wb_write okU_some offW_none offW_some touchOf V.noRef V.noRefL Option.isSome_some Option.isSome_none mild_none mild_new Option.getD_some Option.getD_none evQ_seq evQ_region evQ_block evQ_cond evQ_ret evQ_skip evQ_exit evO_cons evO_nil evO_guard freezeL_nil oS_some oS_none oS_ite oS_ite' oB_bool oI_true oI_false oE_normal oE_exit oE_ret bQ_normal bQ_ret bQ_exit lQ_normal lQ_ret lQ_exit List.zipIdx_cons List.zipIdx_nil List.map_cons List.map_nil evalOp opd_const opd_tmp opd_func ofC_int ofC_bool ofC_str ofC_nil app_none app_new app_write app_change putE_some putE_none setA_cons setA_nil setH_cons setH_nil mapA_cons mapA_nil look_cons look_nil e_mk h_mk drop_nil drop_mk keep_mk dstOk_some dstOk_none guardT_eq true_and and_true Bool.not_false Bool.not_true selB_true selB_false mem_nil mem_cons kpL_nil kpL_cons drL_nil drL_cons closed_mk V.refsIn V.refsInL Blk.refsIn List.all_cons List.all_nil lenV bin_add bin_sub bin_mul bin_quo bin_rem bin_eql bin_neq bin_lss bin_leq bin_gtr bin_geq un_neg un_not post_ret post_normal St.init Bool.false_eq_true List.length_map Bool.or_false Bool.or_true Bool.false_or Bool.true_or beq_self_eq_true Option.map_some Option.map_none Option.bind_some List.getElem?_cons_zero List.getElem?_cons_succ scalar stor isAggV V.cells List.cons_append List.nil_append if_true if_false wrap_of callV V.dataL V.data Bool.and_true Bool.true_and fresh names V.ren V.renL retV resV packL packV packC getBlks wrapR subV putV decide_true decide_false TK.agg List.length_cons List.length_nil List.take_succ_cons List.take_zero List.drop_succ_cons List.drop_zero List.take_nil List.drop_nil Nat.zero_add Nat.add_zero List.append_nil List.getElem?_nil elemsV ro ro0 ro1 roC ty2 ty3 ty4 ty5 ty6 ty7 ty8 ty9 ty10 ty11 ty12 ty13 ty14 ty18 ty19 ty21 ty24 ty25 ty33 ty34 ty35 ty36 ty41 ty42 ty43 ty45 ty46 ty53 ty63 ty64 ty69 ty74 ty77 ty78 ty96 ty98 ty108 ty115 ty142 ty143 ty148 ty149 ty152 ty153 ty154 ty155 eqs46 eqs64 eqs78
theorem bin_eql_str (x y : ByteArray) : binV .eql (.str x) (.str y) = some (.bool (decide (x = y))) := by
  rw [← str_eq]; rfl
theorem bin_neq_str (x y : ByteArray) : binV .neq (.str x) (.str y) = some (.bool (!(decide (x = y)))) := by
  rw [← str_eq]; rfl
theorem bin_leq_str (x y : ByteArray) : binV .leq (.str x) (.str y) = some (.bool (!(Op.bytesLess y.toList x.toList))) := by
  rw [less_total]; rfl
theorem bin_geq_str (x y : ByteArray) : binV .geq (.str x) (.str y) = some (.bool (!(Op.bytesLess x.toList y.toList))) := rfl
def digsB : ByteArray := ⟨#[48, 49, 50, 51, 52, 53, 54, 55, 56, 57]⟩
def codeF : List V → Option (V × List Blk)
  | [.str s] => some (.bool (codeOk s), [])
  | _ => none
theorem codeF_eq (s : ByteArray) : codeF [.str s] = some (.bool (codeOk s), []) := rfl
theorem ok_long {s : ByteArray} (h : ¬ (0 < s.size ∧ s.size ≤ 8)) : codeOk s = false := by unfold codeOk; rw [decide_eq_false h]; rfl
theorem ok_all {s : ByteArray} (h : 0 < s.size ∧ s.size ≤ 8) : codeOk s = s.data.toList.all dig := by unfold codeOk; rw [decide_eq_true h]; rfl
theorem code_snd {J : World → Prop} (hJ : Stable J) : Snd Try.prog J 96 codeF := by
  intro args r bs h
  unfold codeF at h
  split at h
  · rename_i s
    obtain ⟨rfl, rfl⟩ := some_pair h
    by_cases h1 : s.size = 0
    · have e := ok_long (s := s) (fun h => by omega)
      have hz : s = ⟨#[]⟩ := by
        obtain ⟨⟨l⟩⟩ := s
        have : l = [] := List.eq_nil_of_length_eq_zero h1
        rw [this]
      rw [e]
      refine evFn (l := []) (nv := nv0) (fz := fz0) (dr := dr96) (dd := dd96) (lam := []) trivial hJ trivial Try.func96 rfl rfl (Nat.le_of_ble_eq_true rfl) (Nat.le_of_ble_eq_true rfl) drOk96 ?_
      dsimp only [Try.f96, dr96, dd96, Option.getD_some]
      refine ev_start ?_
      simp (disch := omega) only [hz, bin_eql_str, go_sem, Int.reduceEq, Int.reduceLT, Int.reduceLE, Int.reduceNeg, Nat.reduceAdd, Nat.reduceLT, Nat.reduceEqDiff, Nat.reduceMul, Nat.reduceLeDiff, reduceIte, Nat.reduceBEq, reduceCtorEq, evP_D, evD_guard, evD_cons, evD_zero, evD_nil]
    · have hz : ¬ s = ⟨#[]⟩ := fun h => h1 (by rw [h]; rfl)
      by_cases h2 : s.size ≤ 8
      · have h2' : ¬ 8 < (s.size : Int) := by omega
        have hlen : s.data.toList.length = s.size := rfl
        have hok := ok_all (s := s) ⟨by omega, h2⟩
        refine evFn (l := []) (nv := nv0) (fz := fz0) (dr := dr96) (dd := dd96) (lam := []) trivial hJ trivial Try.func96 rfl rfl (Nat.le_of_ble_eq_true rfl) (Nat.le_of_ble_eq_true rfl) drOk96 ?_
        dsimp only [Try.f96, dr96, dd96, Option.getD_some]
        refine ev_start ?_
        simp (disch := omega) only [hz, h2', bin_eql_str, go_sem, Int.reduceEq, Int.reduceLT, Int.reduceLE, Int.reduceNeg, Nat.reduceAdd, Nat.reduceLT, Nat.reduceEqDiff, Nat.reduceMul, Nat.reduceLeDiff, reduceIte, Nat.reduceBEq, reduceCtorEq, evP_D, evD_guard, evD_cons, evD_zero, evD_nil]
        refine evQ_loop [0, 12, 13] [] (fun σ => ∃ (k : Nat), (k ≤ s.size ∧ ∀ i b, i < k → s.data.toList[i]? = some b → dig b = true) ∧ σ = ⟨[(0, .str s), (12, .int .i64 s.size), (13, .int .i64 k)], []⟩)
          (fun σ => s.size - (match Ev.look 13 σ.env with | some (.int _ n) => n.toNat | _ => 0)) ?_ ?_
        · simp only [go_sem, Int.reduceEq, Int.reduceLT, Int.reduceLE, Int.reduceNeg, Nat.reduceAdd, Nat.reduceLT, Nat.reduceEqDiff, Nat.reduceMul, Nat.reduceLeDiff, reduceIte, Nat.reduceBEq, reduceCtorEq, evP_D, evD_guard, evD_cons, evD_zero, evD_nil]
          exact ⟨0, ⟨Nat.zero_le _, fun i b h => by omega⟩, rfl⟩
        · rintro σ ⟨k, ⟨hk, hall⟩, rfl⟩
          by_cases hlt : k < s.size
          · have hlt' : (k : Int) < s.size := by omega
            have hk0 : (0 : Int) ≤ k := by omega
            have hb : s.data.toList[k]? = some (s.data.toList[k]'hlt) := List.getElem?_eq_getElem _
            obtain ⟨b, hbd⟩ : ∃ b, b = s.data.toList[k]'hlt := ⟨_, rfl⟩
            rw [← hbd] at hb
            have hg : s[k]? = some b := by rw [str_get]; exact hb
            have hmem : b ∈ s.data.toList := List.mem_of_getElem? hb
            by_cases c1 : ((b.toNat : Nat) : Int) < 48
            · have e : codeOk s = false := by rw [hok, List.all_eq_false]; exact ⟨b, hmem, by simp [dig]; omega⟩
              simp (disch := omega) only [hlt', hk0, Int.toNat_natCast, hg, c1, e, go_sem, Int.reduceEq, Int.reduceLT, Int.reduceLE, Int.reduceNeg, Nat.reduceAdd, Nat.reduceLT, Nat.reduceEqDiff, Nat.reduceMul, Nat.reduceLeDiff, reduceIte, Nat.reduceBEq, reduceCtorEq, evP_D, evD_guard, evD_cons, evD_zero, evD_nil]
            · by_cases c2 : 57 < ((b.toNat : Nat) : Int)
              · have e : codeOk s = false := by rw [hok, List.all_eq_false]; exact ⟨b, hmem, by simp [dig]; omega⟩
                simp (disch := omega) only [hlt', hk0, Int.toNat_natCast, hg, c1, c2, e, go_sem, Int.reduceEq, Int.reduceLT, Int.reduceLE, Int.reduceNeg, Nat.reduceAdd, Nat.reduceLT, Nat.reduceEqDiff, Nat.reduceMul, Nat.reduceLeDiff, reduceIte, Nat.reduceBEq, reduceCtorEq, evP_D, evD_guard, evD_cons, evD_zero, evD_nil]
              · simp (disch := omega) only [hlt', hk0, Int.toNat_natCast, hg, c1, c2, go_sem, Int.reduceEq, Int.reduceLT, Int.reduceLE, Int.reduceNeg, Nat.reduceAdd, Nat.reduceLT, Nat.reduceEqDiff, Nat.reduceMul, Nat.reduceLeDiff, reduceIte, Nat.reduceBEq, reduceCtorEq, evP_D, evD_guard, evD_cons, evD_zero, evD_nil]
                exact ⟨⟨k + 1, ⟨hlt, fun i b' hi hb' => by
                  by_cases e : i = k
                  · subst e
                    rw [hb] at hb'
                    cases hb'
                    simp [dig]; omega
                  · exact hall i b' (by omega) hb'⟩, rfl⟩, by
                  have e3 : ((k : Int) + 1).toNat = k + 1 := by omega
                  rw [e3]; exact Nat.sub_lt_sub_left hlt (Nat.lt_succ_self k)⟩
          · have hk' : k = s.size := by omega
            subst hk'
            have hlt' : ¬ ((s.size : Int) < s.size) := by omega
            have e : codeOk s = true := by
              rw [hok, List.all_eq_true]
              intro b hb
              obtain ⟨i, hi, rfl⟩ := List.mem_iff_getElem.1 hb
              exact hall i _ hi (List.getElem?_eq_getElem _)
            simp (disch := omega) only [hlt', e, go_sem, Int.reduceEq, Int.reduceLT, Int.reduceLE, Int.reduceNeg, Nat.reduceAdd, Nat.reduceLT, Nat.reduceEqDiff, Nat.reduceMul, Nat.reduceLeDiff, reduceIte, Nat.reduceBEq, reduceCtorEq, evP_D, evD_guard, evD_cons, evD_zero, evD_nil]
      · have h2' : 8 < (s.size : Int) := by omega
        have e := ok_long (s := s) (fun h => by omega)
        refine evFn (l := []) (nv := nv0) (fz := fz0) (dr := dr96) (dd := dd96) (lam := []) trivial hJ trivial Try.func96 rfl rfl (Nat.le_of_ble_eq_true rfl) (Nat.le_of_ble_eq_true rfl) drOk96 ?_
        dsimp only [Try.f96, dr96, dd96, Option.getD_some]
        refine ev_start ?_
        simp (disch := omega) only [hz, h2', e, bin_eql_str, go_sem, Int.reduceEq, Int.reduceLT, Int.reduceLE, Int.reduceNeg, Nat.reduceAdd, Nat.reduceLT, Nat.reduceEqDiff, Nat.reduceMul, Nat.reduceLeDiff, reduceIte, Nat.reduceBEq, reduceCtorEq, evP_D, evD_guard, evD_cons, evD_zero, evD_nil]
  · cases h
end Go.Proofs.Ytdjdipehfnnhpaa
