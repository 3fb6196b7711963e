/-
  Sums by kinds, run by the machine: the program's kinds, Profit and Sheet, the reference's Kinds.
-/
import Derived.Test.YtdjdipehfnnhpaaTsE
namespace Go.Proofs.Ytdjdipehfnnhpaa
open Go Go.Ev Go.RowKit Go.Acc
set_option maxHeartbeats 4000000
set_option linter.unusedSimpArgs false
set_option linter.unusedVariables false
attribute [local go_sem] lenM takeV tk1 mapsV mkMapV hintOk lookV updV mapKE keyOk V.key app_lend callW_fn lendV postL_ret postL_normal St.lent mkX_L bin_eql_vz bin_eql_zv bin_eql_rz bin_eql_zr bin_eql_zz bin_neq_vz bin_neq_zv bin_neq_rz bin_neq_zr bin_neq_zz eqH nilEq nonE plainI gOf_bool gOf_skip g_some g_none Int.ofNat_zero Int.cast_ofNat_Int Bool.false_and Bool.and_false sliceV noBox elemsZ V.scrub V.scrubL Blk.scrub appendV isSlice maxLen_eq leT List.contains_nil List.contains_cons nvL_at fzL_at fillV V.plain V.plainL Blk.plain List.size_toArray mapO_nil mapO_cons Option.isNone_none Option.isNone_some beqT beqF oI_not mkX_e phi_nil phi_cons bin_eql_bool bin_neq_bool bin_eql_agg bin_neq_agg eqV eqFs eqK_int eqK_bool' eqK_str mkX_T mkX_Φ mkX_n mkX_f mkX_d mkX_r nv0_at fz0_at evQ_dr evP_W evW_nil evW_cons evW_guard okW_eq tame_none tame_new tame_write wb_none wb_new wb_write okU_some offW_none offW_some touchOf V.noRef V.noRefL Option.isSome_some Option.isSome_none mild_none mild_new Option.getD_some Option.getD_none evQ_seq evQ_region evQ_block evQ_cond evQ_ret evQ_skip evQ_exit evO_cons evO_nil evO_guard freezeL_nil oS_some oS_none oS_ite oS_ite' oB_bool oI_true oI_false oE_normal oE_exit oE_ret bQ_normal bQ_ret bQ_exit lQ_normal lQ_ret lQ_exit List.zipIdx_cons List.zipIdx_nil List.map_cons List.map_nil evalOp opd_const opd_tmp opd_func ofC_int ofC_bool ofC_str ofC_nil app_none app_new app_write app_change putE_some putE_none setA_cons setA_nil setH_cons setH_nil mapA_cons mapA_nil look_cons look_nil e_mk h_mk drop_nil drop_mk keep_mk dstOk_some dstOk_none guardT_eq true_and and_true Bool.not_false Bool.not_true selB_true selB_false mem_nil mem_cons kpL_nil kpL_cons drL_nil drL_cons closed_mk V.refsIn V.refsInL Blk.refsIn List.all_cons List.all_nil lenV bin_add bin_sub bin_mul bin_quo bin_rem bin_eql bin_neq bin_lss bin_leq bin_gtr bin_geq un_neg un_not post_ret post_normal St.init Bool.false_eq_true List.length_map Bool.or_false Bool.or_true Bool.false_or Bool.true_or beq_self_eq_true Option.map_some Option.map_none Option.bind_some List.getElem?_cons_zero List.getElem?_cons_succ scalar stor isAggV V.cells List.cons_append List.nil_append if_true if_false wrap_of callV V.dataL V.data Bool.and_true Bool.true_and fresh names V.ren V.renL retV resV packL packV packC getBlks wrapR subV putV decide_true decide_false TK.agg List.length_cons List.length_nil List.take_succ_cons List.take_zero List.drop_succ_cons List.drop_zero List.take_nil List.drop_nil Nat.zero_add Nat.add_zero List.append_nil List.getElem?_nil elemsV ro ro0 ro1 roC ty2 ty3 ty4 ty5 ty6 ty7 ty8 ty9 ty10 ty11 ty12 ty13 ty14 ty18 ty19 ty21 ty24 ty25 ty33 ty34 ty35 ty36 ty41 ty42 ty43 ty45 ty46 ty53 ty63 ty64 ty69 ty74 ty77 ty78 ty96 ty98 ty108 ty115 ty142 ty143 ty148 ty149 ty152 ty153 ty154 ty155 eqs46 eqs64 eqs78
theorem idx5_0 : idx 5 0 = some 0 := by decide
theorem idx5_1 : idx 5 1 = some 1 := by decide
theorem idx5_2 : idx 5 2 = some 2 := by decide
theorem idx5_3 : idx 5 3 = some 3 := by decide
theorem idx5_4 : idx 5 4 = some 4 := by decide
def kdV (E : List En) (f t : Int) (A : List (ByteArray × Int)) : V := .agg [.int .i64 (kdS E f t 0 A), .int .i64 (kdS E f t 1 A), .int .i64 (kdS E f t 2 A), .int .i64 (kdS E f t 3 A), .int .i64 (kdS E f t 4 A)]
theorem kdS_succ {E : List En} {f t i : Int} {A : List (ByteArray × Int)} {k : Nat} {c : ByteArray} {d : Int} (h : A[k]? = some (c, d)) : kdS E f t i (A.take (k + 1)) = kdS E f t i (A.take k) + if d = i then ofB c f t E else 0 :=
  sum_take (fun a : ByteArray × Int => if a.2 = i then ofB a.1 f t E else 0) h
set_option maxHeartbeats 8000000 in
theorem kinds_sound {J : World → Prop} (hJ : Stable J) (A : List (ByteArray × Int)) (E : List En) (s f t : Int) (hc : bkChk A E s = 0) :
    SoundAt Try.prog J 58 [bkV A E s, .int .i64 f, .int .i64 t] (kdV E f t A) [] := by
  obtain ⟨h1, _, h3, h4⟩ := bkChk_ok hc
  have hEn : ∀ x ∈ E, enX x = 0 := fun x hx => (h4 x hx).1
  have hA24 := (acChk_codes h1).1
  have hkd := (acChk_codes h1).2.1
  obtain ⟨OF, hOF, hOFs⟩ := of_ex hJ A E s f t hEn h3
  unfold bkV kdV
  refine evFn (l := [(56, OF)]) (nv := nv0) (fz := fz0) (dr := dr58) (dd := dd58) (lam := []) ⟨hOFs, trivial⟩ hJ trivial Try.func58 rfl rfl (Nat.le_of_ble_eq_true rfl) (Nat.le_of_ble_eq_true rfl) drOk58 ?_
  dsimp only [Try.f58, dr58, dd58, Option.getD_some]
  refine ev_start ?_
  simp (disch := omega) only [List.length_map, go_sem, Int.reduceEq, Int.reduceLT, Int.reduceLE, Int.reduceNeg, Nat.reduceAdd, Nat.reduceLT, Nat.reduceEqDiff, Nat.reduceMul, Nat.reduceLeDiff, reduceIte, Nat.reduceBEq, reduceCtorEq, evP_D, evD_guard, evD_cons, evD_zero, evD_nil]
  refine evQ_loop [1, 2, 3, 6, 7, 11, 12, 13] [24, 48, 56] (fun σ => ∃ (k : Nat), k ≤ A.length ∧ σ = ⟨[(1, .int .i64 f), (2, .int .i64 t), (3, .ptr 24 0), (6, .ptr 48 0), (7, .ptr 56 0), (11, .row 2 (A.map acV)), (12, .int .i64 A.length), (13, .int .i64 k)], [(24, .box (.agg [.row 2 (A.map acV), .row 3 (E.map enW), .int .i64 s])), (48, .box (.agg [.int .i64 0, .int .i64 0, .int .i64 0, .int .i64 0, .int .i64 0])), (56, .box (kdV E f t (A.take k)))]⟩)
    (fun σ => A.length - (match Ev.look 13 σ.env with | some (.int _ n) => n.toNat | _ => 0)) ?_ ?_
  · simp only [go_sem, Int.reduceEq, Int.reduceLT, Int.reduceLE, Int.reduceNeg, Nat.reduceAdd, Nat.reduceLT, Nat.reduceEqDiff, Nat.reduceMul, Nat.reduceLeDiff, reduceIte, Nat.reduceBEq, reduceCtorEq, evP_D, evD_guard, evD_cons, evD_zero, evD_nil]
    exact ⟨0, Nat.zero_le _, rfl⟩
  · rintro σ ⟨k, hkl, rfl⟩
    by_cases hlt : k < A.length
    · have hlt' : (k : Int) < A.length := by omega
      obtain ⟨⟨c, kd⟩, hcn⟩ : ∃ p, A[k]? = some p := ⟨_, List.getElem?_eq_getElem hlt⟩
      have hg := acV_get hcn
      have hk4 := hkd _ (List.mem_of_getElem? hcn)
      simp only at hk4
      have s0 := kdS_succ (E := E) (f := f) (t := t) (i := 0) hcn
      have s1 := kdS_succ (E := E) (f := f) (t := t) (i := 1) hcn
      have s2 := kdS_succ (E := E) (f := f) (t := t) (i := 2) hcn
      have s3 := kdS_succ (E := E) (f := f) (t := t) (i := 3) hcn
      have s4 := kdS_succ (E := E) (f := f) (t := t) (i := 4) hcn
      have b0 := kdS_bd hEn h3 f t 0 hA24 k
      have b1 := kdS_bd hEn h3 f t 1 hA24 k
      have b2 := kdS_bd hEn h3 f t 2 hA24 k
      have b3 := kdS_bd hEn h3 f t 3 hA24 k
      have b4 := kdS_bd hEn h3 f t 4 hA24 k
      have bO := ofB_bd c f t hEn h3
      have hms : A.length - ((k : Int) + 1).toNat < A.length - (k : Int).toNat := by
        have e3 : ((k : Int) + 1).toNat = k + 1 := by omega
        rw [e3, Int.toNat_natCast]; exact Nat.sub_lt_sub_left hlt (Nat.lt_succ_self k)
      unfold kdV
      have h5 : kd = 0 ∨ kd = 1 ∨ kd = 2 ∨ kd = 3 ∨ kd = 4 := by omega
      rcases h5 with rfl | rfl | rfl | rfl | rfl
      all_goals
        simp (disch := (first | omega | assumption)) only [hlt', idx_nat, List.length_map, hg, hOF, idx5_0, idx5_1, idx5_2, idx5_3, idx5_4, go_sem, Int.reduceEq, Int.reduceLT, Int.reduceLE, Int.reduceNeg, Nat.reduceAdd, Nat.reduceLT, Nat.reduceEqDiff, Nat.reduceMul, Nat.reduceLeDiff, reduceIte, Nat.reduceBEq, reduceCtorEq, evP_D, evD_guard, evD_cons, evD_zero, evD_nil]
        refine ⟨⟨k + 1, hlt, ?_⟩, hms⟩
        rw [s0, s1, s2, s3, s4]
        simp only [Int.reduceEq, if_false, if_true, Int.add_zero, Int.natCast_add, Int.natCast_one]
    · have hk' : k = A.length := by omega
      subst hk'
      have hlt' : ¬ ((A.length : Int) < A.length) := by omega
      unfold kdV
      simp (disch := (first | omega | assumption)) only [hlt', List.take_length, go_sem, Int.reduceEq, Int.reduceLT, Int.reduceLE, Int.reduceNeg, Nat.reduceAdd, Nat.reduceLT, Nat.reduceEqDiff, Nat.reduceMul, Nat.reduceLeDiff, reduceIte, Nat.reduceBEq, reduceCtorEq, evP_D, evD_guard, evD_cons, evD_zero, evD_nil]
end Go.Proofs.Ytdjdipehfnnhpaa
