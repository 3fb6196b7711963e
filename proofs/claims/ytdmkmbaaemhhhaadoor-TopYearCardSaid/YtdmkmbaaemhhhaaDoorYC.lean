/-
  After plans are run and the books are closed, assets equal liabilities and equity, nothing is earned as yet, and all balances are as even as ever, for whatever book, plans, day and account.
  Conditions: none but what the card itself says (the table cal.lengths is tied to the program's text). The frame was written by a program after the kit's own.
-/
import Derived.Test.YtdmkmbaaemhhhaaDoorYA
import Derived.Test.YtdmkmbaaemhhhaaDoorTsE
import Derived.Test.YtdmkmbaaemhhhaaDoorYB
import Derived.Test.YtdmkmbaaemhhhaaDoorCards
import Derived.Test.YtdmkmbaaemhhhaaDoorTie
import Derived.WalkKit
import Derived.ProofKit
import Derived.OpenShut
import Derived.ShutString
import Derived.ChangeOld
import Derived.Below
import Derived.Lib.SmallJoins
import Derived.Deep.DeepHandedRow
import Derived.Lib.LaidTab
namespace Go.Acc
open Go Go.Ev
def gtE (A : List (ByteArray × Int)) (E : List En) (s : Int) (k : ByteArray) : Int := if bkChk A E s ≠ 0 then bkChk A E s else match getE k E with
  | some _ => 0
  | none => 4
def zeV : V := .agg [.str ByteArray.empty, .int .i64 0, .zero]
end Go.Acc
namespace Go.Proofs.YtdmkmbaaemhhhaaDoor
open Go Go.Ev Go.RowKit Go.Acc
set_option maxHeartbeats 4000000
set_option linter.unusedSimpArgs false
set_option linter.unusedVariables false
attribute [local go_sem] mutV getB mvB bkB V.mv V.mvL V.bk V.bkL Blk.mv Blk.bk posN nmN backN noDup app_writes setHL_nil setHL_cons postM_ret postM_normal resM hasB_nil hasB_cons St.mut names_nil names_cons sortV cellOf mkX_M mkX_S mkX_ln lnL_at ms0_mt ms0_st V.lone V.loneL List.zip_cons_cons List.zip_nil_left Option.isNone_none bornV subE partR unB bytesW boundsV ownP sliceW copyV clearV lenM takeV tk1 mapsV mkMapV hintOk lookV updV mapKE keyOk V.key app_lend callW_fn lendV postL_ret postL_normal postT_ret postT_normal takeR St.lent mkX_L bin_eql_vz bin_eql_zv bin_eql_rz bin_eql_zr bin_eql_zz bin_neq_vz bin_neq_zv bin_neq_rz bin_neq_zr bin_neq_zz eqH nilEq nonE plainI gOf_bool gOf_skip g_some g_none Int.ofNat_zero Int.cast_ofNat_Int Bool.false_and Bool.and_false sliceV noBox elemsZ V.scrub V.scrubL Blk.scrub appendV isSlice maxLen_eq leT List.contains_nil List.contains_cons nvL_at fzL_at fillV V.plain V.plainL Blk.plain List.size_toArray mapO_nil mapO_cons Option.isNone_some beqT beqF oI_not mkX_e phi_nil phi_cons bin_eql_bool bin_neq_bool bin_eql_agg bin_neq_agg eqV eqFs eqK_int eqK_bool' eqK_str mkX_T mkX_Φ mkX_n mkX_f mkX_d mkX_r nv0_at fz0_at evQ_dr evP_W evW_nil evW_cons evW_guard okW_eq tame_none tame_new tame_write wb_none wb_new wb_write okU_some offW_none offW_some touchOf V.noRef V.noRefL Option.isSome_some Option.isSome_none mild_none mild_new Option.getD_some Option.getD_none evQ_seq evQ_region evQ_block evQ_cond evQ_ret evQ_skip evQ_exit evO_cons evO_nil evO_guard freezeL_nil oS_some oS_none oS_ite oS_ite' oB_bool oI_true oI_false oE_normal oE_exit oE_ret bQ_normal bQ_ret bQ_exit lQ_normal lQ_ret lQ_exit List.zipIdx_cons List.zipIdx_nil List.map_cons List.map_nil evalOp opd_const opd_tmp opd_func ofC_int ofC_bool ofC_str ofC_nil app_none app_new app_write app_change putE_some putE_none setA_cons setA_nil setH_cons setH_nil mapA_cons mapA_nil look_cons look_nil e_mk h_mk drop_nil drop_mk keep_mk dstOk_some dstOk_none guardT_eq true_and and_true Bool.not_false Bool.not_true selB_true selB_false mem_nil mem_cons kpL_nil kpL_cons drL_nil drL_cons closed_mk V.refsIn V.refsInL Blk.refsIn List.all_cons List.all_nil lenV bin_add bin_sub bin_mul bin_quo bin_rem bin_eql bin_neq bin_lss bin_leq bin_gtr bin_geq un_neg un_not post_ret post_normal St.init Bool.false_eq_true List.length_map Bool.or_false Bool.or_true Bool.false_or Bool.true_or beq_self_eq_true Option.map_some Option.map_none Option.bind_some List.getElem?_cons_zero List.getElem?_cons_succ scalar stor isAggV V.cells List.cons_append List.nil_append if_true if_false wrap_of callV V.dataL V.data Bool.and_true Bool.true_and fresh names V.ren V.renL retV resV packL packV packC getBlks wrapR subV putV decide_true decide_false TK.agg List.length_cons List.length_nil List.take_succ_cons List.take_zero List.drop_succ_cons List.drop_zero List.take_nil List.drop_nil Nat.zero_add Nat.add_zero List.append_nil List.getElem?_nil elemsV ro ro0 ro1 roC ty1 ty2 ty3 ty4 ty5 ty6 ty7 ty8 ty9 ty10 ty11 ty12 ty13 ty14 ty15 ty16 ty17 ty18 ty19 ty21 ty22 ty23 ty24 ty26 ty27 ty28 ty29 ty30 ty31 ty32 ty33 ty34 ty35 ty36 ty37 ty38 ty39 ty40 ty41 ty42 ty44 ty45 ty47 ty49 ty51 ty53 ty54 ty55 ty56 ty57 ty58 ty59 ty60 ty61 ty62 ty63 ty64 ty65 ty66 ty67 ty68 ty69 ty70 ty71 ty72 ty73 ty74 ty75 ty76 ty77 ty78 ty79 ty80 ty81 ty82 ty83 ty84 ty85 ty86 ty87 ty88 ty89 ty90 ty92 ty93 ty94 ty95 ty96 ty97 ty98 ty99 ty100 ty101 ty102 ty103 ty104 ty105 ty107 ty108 ty109 ty110 ty111 ty112 ty113 ty114 ty115 ty116 ty117 ty118 ty119 ty123 ty124 ty125 ty126 ty127 ty128 ty129 ty130 ty131 ty132 ty133 ty135 ty136 ty137 ty138 ty139 ty141 ty142 ty143 ty144 ty146 ty147 ty148 ty149 ty153 ty154 ty155 ty156 ty157 ty158 ty159 ty160 ty161 eqs29 eqs61 eqs79 eqs94
def gtV (A : List (ByteArray × Int)) (E : List En) (s : Int) (k : ByteArray) : V := .tup [if bkChk A E s ≠ 0 then zeV else match getE k E with
  | some y => enW y
  | none => zeV, .int .i64 (gtE A E s k)]
set_option maxHeartbeats 4000000 in
theorem get_sound {J : World → Prop} (hJ : Stable J) (A : List (ByteArray × Int)) (E : List En) (s : Int) (k : ByteArray) (hE : E.length ≤ maxLen) : SoundAt Tryd.prog J 16 [bkV A E s, .str k] (gtV A E s k) [] := by
  have hB := bcheck_sound hJ A E s hE
  have hF := bfind_sound hJ A E s k
  unfold bkV at hB hF ⊢
  by_cases hz : bkChk A E s = 0
  case neg =>
    have eR : gtV A E s k = .tup [.agg [.str ByteArray.empty, .int .i64 0, .zero], .int .i64 (bkChk A E s)] := by unfold gtV gtE; rw [if_pos hz, if_pos hz]; rfl
    rw [eR]
    generalize bkChk A E s = q at *
    refine evFn (l := [(20, at1 _ (_, []))]) (nv := nv0) (fz := fz0) (dr := dr16) (dd := dd16) (lam := []) (ms := ms0) ⟨at1_snd hB, trivial⟩ hJ trivial ms0_ok Tryd.func16 rfl rfl (Nat.le_of_ble_eq_true rfl) (Nat.le_of_ble_eq_true rfl) drOk16 ?_
    dsimp only [Tryd.f16, dr16, dd16, Option.getD_some]
    refine ev_start ?_
    simp (disch := omega) only [at1_eq, hz, go_sem, Int.reduceEq, Int.reduceLT, Int.reduceLE, Int.reduceNeg, Nat.reduceAdd, Nat.reduceLT, Nat.reduceEqDiff, Nat.reduceMul, Nat.reduceLeDiff, reduceIte, Nat.reduceBEq, reduceCtorEq, evP_D, evD_guard, evD_cons, evD_zero, evD_nil]
  cases hg : getE k E with
  | none =>
    have eR : gtV A E s k = .tup [.agg [.str ByteArray.empty, .int .i64 0, .zero], .int .i64 4] := by unfold gtV gtE; rw [if_neg (fun h => h hz), if_neg (fun h => h hz), hg]; rfl
    have hfn := fiE_none hg
    rw [hfn] at hF
    rw [eR]
    refine evFn (l := [(20, at1 _ (_, [])), (44, at1 _ (_, []))]) (nv := nv0) (fz := fz0) (dr := dr16) (dd := dd16) (lam := []) (ms := ms0) ⟨at1_snd hB, at1_snd hF, trivial⟩ hJ trivial ms0_ok Tryd.func16 rfl rfl (Nat.le_of_ble_eq_true rfl) (Nat.le_of_ble_eq_true rfl) drOk16 ?_
    dsimp only [Tryd.f16, dr16, dd16, Option.getD_some]
    refine ev_start ?_
    simp (disch := omega) only [at1_eq, hz, go_sem, Int.reduceEq, Int.reduceLT, Int.reduceLE, Int.reduceNeg, Nat.reduceAdd, Nat.reduceLT, Nat.reduceEqDiff, Nat.reduceMul, Nat.reduceLeDiff, reduceIte, Nat.reduceBEq, reduceCtorEq, evP_D, evD_guard, evD_cons, evD_zero, evD_nil]
  | some y =>
    obtain ⟨i, hi, hyi⟩ := fiE_some hg
    have hlt : i < E.length := (List.getElem?_eq_some_iff.1 hyi).1
    have hfi : ¬ ((i : Int) < 0) := by omega
    have hk := bkChk_ok hz
    have h12 := (enX_ok (hk.2.2.2 y (List.mem_of_getElem? hyi)).1).2.1
    obtain ⟨k', d', l'⟩ := y
    have eR : gtV A E s k = .tup [.agg [.str k', .int .i64 d', .row 2 (l'.map acV)], .int .i64 0] := by unfold gtV gtE; rw [if_neg (fun h => h hz), if_neg (fun h => h hz), hg]; rfl
    have hcl := cloneF_eq l' (by simp only at h12; omega)
    have hyg := enW_get hyi
    rw [hi] at hF
    rw [eR]
    refine evFn (l := [(20, at1 _ (_, [])), (44, at1 _ (_, [])), (45, cloneF)]) (nv := nv0) (fz := fz0) (dr := dr16) (dd := dd16) (lam := []) (ms := ms0) ⟨at1_snd hB, at1_snd hF, cloneL_snd hJ, trivial⟩ hJ trivial ms0_ok Tryd.func16 rfl rfl (Nat.le_of_ble_eq_true rfl) (Nat.le_of_ble_eq_true rfl) drOk16 ?_
    dsimp only [Tryd.f16, dr16, dd16, Option.getD_some]
    refine ev_start ?_
    simp (disch := (first | omega | assumption)) only [at1_eq, hz, hfi, idx_nat, List.length_map, hyg, hcl, go_sem, Int.reduceEq, Int.reduceLT, Int.reduceLE, Int.reduceNeg, Nat.reduceAdd, Nat.reduceLT, Nat.reduceEqDiff, Nat.reduceMul, Nat.reduceLeDiff, reduceIte, Nat.reduceBEq, reduceCtorEq, evP_D, evD_guard, evD_cons, evD_zero, evD_nil]
end Go.Proofs.YtdmkmbaaemhhhaaDoor
namespace Go.Proofs.YtdmkmbaaemhhhaaDoor
open Go Go.Ev Go.RowKit Go.Acc
set_option maxHeartbeats 4000000
set_option linter.unusedSimpArgs false
set_option linter.unusedVariables false
attribute [local go_sem] mutV getB mvB bkB V.mv V.mvL V.bk V.bkL Blk.mv Blk.bk posN nmN backN noDup app_writes setHL_nil setHL_cons postM_ret postM_normal resM hasB_nil hasB_cons St.mut names_nil names_cons sortV cellOf mkX_M mkX_S mkX_ln lnL_at ms0_mt ms0_st V.lone V.loneL List.zip_cons_cons List.zip_nil_left Option.isNone_none bornV subE partR unB bytesW boundsV ownP sliceW copyV clearV lenM takeV tk1 mapsV mkMapV hintOk lookV updV mapKE keyOk V.key app_lend callW_fn lendV postL_ret postL_normal postT_ret postT_normal takeR St.lent mkX_L bin_eql_vz bin_eql_zv bin_eql_rz bin_eql_zr bin_eql_zz bin_neq_vz bin_neq_zv bin_neq_rz bin_neq_zr bin_neq_zz eqH nilEq nonE plainI gOf_bool gOf_skip g_some g_none Int.ofNat_zero Int.cast_ofNat_Int Bool.false_and Bool.and_false sliceV noBox elemsZ V.scrub V.scrubL Blk.scrub appendV isSlice maxLen_eq leT List.contains_nil List.contains_cons nvL_at fzL_at fillV V.plain V.plainL Blk.plain List.size_toArray mapO_nil mapO_cons Option.isNone_some beqT beqF oI_not mkX_e phi_nil phi_cons bin_eql_bool bin_neq_bool bin_eql_agg bin_neq_agg eqV eqFs eqK_int eqK_bool' eqK_str mkX_T mkX_Φ mkX_n mkX_f mkX_d mkX_r nv0_at fz0_at evQ_dr evP_W evW_nil evW_cons evW_guard okW_eq tame_none tame_new tame_write wb_none wb_new wb_write okU_some offW_none offW_some touchOf V.noRef V.noRefL Option.isSome_some Option.isSome_none mild_none mild_new Option.getD_some Option.getD_none evQ_seq evQ_region evQ_block evQ_cond evQ_ret evQ_skip evQ_exit evO_cons evO_nil evO_guard freezeL_nil oS_some oS_none oS_ite oS_ite' oB_bool oI_true oI_false oE_normal oE_exit oE_ret bQ_normal bQ_ret bQ_exit lQ_normal lQ_ret lQ_exit List.zipIdx_cons List.zipIdx_nil List.map_cons List.map_nil evalOp opd_const opd_tmp opd_func ofC_int ofC_bool ofC_str ofC_nil app_none app_new app_write app_change putE_some putE_none setA_cons setA_nil setH_cons setH_nil mapA_cons mapA_nil look_cons look_nil e_mk h_mk drop_nil drop_mk keep_mk dstOk_some dstOk_none guardT_eq true_and and_true Bool.not_false Bool.not_true selB_true selB_false mem_nil mem_cons kpL_nil kpL_cons drL_nil drL_cons closed_mk V.refsIn V.refsInL Blk.refsIn List.all_cons List.all_nil lenV bin_add bin_sub bin_mul bin_quo bin_rem bin_eql bin_neq bin_lss bin_leq bin_gtr bin_geq un_neg un_not post_ret post_normal St.init Bool.false_eq_true List.length_map Bool.or_false Bool.or_true Bool.false_or Bool.true_or beq_self_eq_true Option.map_some Option.map_none Option.bind_some List.getElem?_cons_zero List.getElem?_cons_succ scalar stor isAggV V.cells List.cons_append List.nil_append if_true if_false wrap_of callV V.dataL V.data Bool.and_true Bool.true_and fresh names V.ren V.renL retV resV packL packV packC getBlks wrapR subV putV decide_true decide_false TK.agg List.length_cons List.length_nil List.take_succ_cons List.take_zero List.drop_succ_cons List.drop_zero List.take_nil List.drop_nil Nat.zero_add Nat.add_zero List.append_nil List.getElem?_nil elemsV ro ro0 ro1 roC ty1 ty2 ty3 ty4 ty5 ty6 ty7 ty8 ty9 ty10 ty11 ty12 ty13 ty14 ty15 ty16 ty17 ty18 ty19 ty21 ty22 ty23 ty24 ty26 ty27 ty28 ty29 ty30 ty31 ty32 ty33 ty34 ty35 ty36 ty37 ty38 ty39 ty40 ty41 ty42 ty44 ty45 ty47 ty49 ty51 ty53 ty54 ty55 ty56 ty57 ty58 ty59 ty60 ty61 ty62 ty63 ty64 ty65 ty66 ty67 ty68 ty69 ty70 ty71 ty72 ty73 ty74 ty75 ty76 ty77 ty78 ty79 ty80 ty81 ty82 ty83 ty84 ty85 ty86 ty87 ty88 ty89 ty90 ty92 ty93 ty94 ty95 ty96 ty97 ty98 ty99 ty100 ty101 ty102 ty103 ty104 ty105 ty107 ty108 ty109 ty110 ty111 ty112 ty113 ty114 ty115 ty116 ty117 ty118 ty119 ty123 ty124 ty125 ty126 ty127 ty128 ty129 ty130 ty131 ty132 ty133 ty135 ty136 ty137 ty138 ty139 ty141 ty142 ty143 ty144 ty146 ty147 ty148 ty149 ty153 ty154 ty155 ty156 ty157 ty158 ty159 ty160 ty161 eqs29 eqs61 eqs79 eqs94
theorem idx5_0 : idx 5 0 = some 0 := by decide
theorem idx5_1 : idx 5 1 = some 1 := by decide
theorem idx5_2 : idx 5 2 = some 2 := by decide
theorem idx5_3 : idx 5 3 = some 3 := by decide
theorem idx5_4 : idx 5 4 = some 4 := by decide
def kdV (E : List En) (f t : Int) (A : List (ByteArray × Int)) : V := .agg [.int .i64 (kdS E f t 0 A), .int .i64 (kdS E f t 1 A), .int .i64 (kdS E f t 2 A), .int .i64 (kdS E f t 3 A), .int .i64 (kdS E f t 4 A)]
theorem kdS_succ {E : List En} {f t i : Int} {A : List (ByteArray × Int)} {k : Nat} {c : ByteArray} {d : Int} (h : A[k]? = some (c, d)) : kdS E f t i (A.take (k + 1)) = kdS E f t i (A.take k) + if d = i then ofB c f t E else 0 :=
  sum_take (fun a : ByteArray × Int => if a.2 = i then ofB a.1 f t E else 0) h
set_option maxHeartbeats 8000000 in
theorem kinds_sound {J : World → Prop} (hJ : Stable J) (A : List (ByteArray × Int)) (E : List En) (s f t : Int) (hc : bkChk A E s = 0) :
    SoundAt Tryd.prog J 47 [bkV A E s, .int .i64 f, .int .i64 t] (kdV E f t A) [] := by
  obtain ⟨h1, _, h3, h4⟩ := bkChk_ok hc
  have hEn : ∀ x ∈ E, enX x = 0 := fun x hx => (h4 x hx).1
  have hA24 := (acChk_codes h1).1
  have hkd := (acChk_codes h1).2.1
  obtain ⟨OF, hOF, hOFs⟩ := of_ex hJ A E s f t hEn h3
  unfold bkV kdV
  refine evFn (l := [(42, OF)]) (nv := nv0) (fz := fz0) (dr := dr47) (dd := dd47) (lam := []) (ms := ms0) ⟨hOFs, trivial⟩ hJ trivial ms0_ok Tryd.func47 rfl rfl (Nat.le_of_ble_eq_true rfl) (Nat.le_of_ble_eq_true rfl) drOk47 ?_
  dsimp only [Tryd.f47, dr47, dd47, Option.getD_some]
  refine ev_start ?_
  simp (disch := omega) only [List.length_map, go_sem, Int.reduceEq, Int.reduceLT, Int.reduceLE, Int.reduceNeg, Nat.reduceAdd, Nat.reduceLT, Nat.reduceEqDiff, Nat.reduceMul, Nat.reduceLeDiff, reduceIte, Nat.reduceBEq, reduceCtorEq, evP_D, evD_guard, evD_cons, evD_zero, evD_nil]
  refine evQ_loop [1, 2, 3, 6, 7, 11, 12, 13] [24, 48, 56] (fun σ => ∃ (k : Nat), k ≤ A.length ∧ σ = ⟨[(1, .int .i64 f), (2, .int .i64 t), (3, .ptr 24 0), (6, .ptr 48 0), (7, .ptr 56 0), (11, .row 2 (A.map acV)), (12, .int .i64 A.length), (13, .int .i64 k)], [(24, .box (.agg [.row 2 (A.map acV), .row 3 (E.map enW), .int .i64 s])), (48, .box (.agg [.int .i64 0, .int .i64 0, .int .i64 0, .int .i64 0, .int .i64 0])), (56, .box (kdV E f t (A.take k)))]⟩)
    (fun σ => A.length - (match Ev.look 13 σ.env with | some (.int _ n) => n.toNat | _ => 0)) ?_ ?_
  · simp only [go_sem, Int.reduceEq, Int.reduceLT, Int.reduceLE, Int.reduceNeg, Nat.reduceAdd, Nat.reduceLT, Nat.reduceEqDiff, Nat.reduceMul, Nat.reduceLeDiff, reduceIte, Nat.reduceBEq, reduceCtorEq, evP_D, evD_guard, evD_cons, evD_zero, evD_nil]
    exact ⟨0, Nat.zero_le _, rfl⟩
  · rintro σ ⟨k, hkl, rfl⟩
    by_cases hlt : k < A.length
    · have hlt' : (k : Int) < A.length := by omega
      obtain ⟨⟨c, kd⟩, hcn⟩ : ∃ p, A[k]? = some p := ⟨_, List.getElem?_eq_getElem hlt⟩
      have hg := acV_get hcn
      have hk4 := hkd _ (List.mem_of_getElem? hcn)
      simp only at hk4
      have s0 := kdS_succ (E := E) (f := f) (t := t) (i := 0) hcn
      have s1 := kdS_succ (E := E) (f := f) (t := t) (i := 1) hcn
      have s2 := kdS_succ (E := E) (f := f) (t := t) (i := 2) hcn
      have s3 := kdS_succ (E := E) (f := f) (t := t) (i := 3) hcn
      have s4 := kdS_succ (E := E) (f := f) (t := t) (i := 4) hcn
      have b0 := kdS_bd hEn h3 f t 0 hA24 k
      have b1 := kdS_bd hEn h3 f t 1 hA24 k
      have b2 := kdS_bd hEn h3 f t 2 hA24 k
      have b3 := kdS_bd hEn h3 f t 3 hA24 k
      have b4 := kdS_bd hEn h3 f t 4 hA24 k
      have bO := ofB_bd c f t hEn h3
      have hms : A.length - ((k : Int) + 1).toNat < A.length - (k : Int).toNat := by
        have e3 : ((k : Int) + 1).toNat = k + 1 := by omega
        rw [e3, Int.toNat_natCast]; exact Nat.sub_lt_sub_left hlt (Nat.lt_succ_self k)
      unfold kdV
      have h5 : kd = 0 ∨ kd = 1 ∨ kd = 2 ∨ kd = 3 ∨ kd = 4 := by omega
      rcases h5 with rfl | rfl | rfl | rfl | rfl
      all_goals
        simp (disch := (first | omega | assumption)) only [hlt', idx_nat, List.length_map, hg, hOF, idx5_0, idx5_1, idx5_2, idx5_3, idx5_4, go_sem, Int.reduceEq, Int.reduceLT, Int.reduceLE, Int.reduceNeg, Nat.reduceAdd, Nat.reduceLT, Nat.reduceEqDiff, Nat.reduceMul, Nat.reduceLeDiff, reduceIte, Nat.reduceBEq, reduceCtorEq, evP_D, evD_guard, evD_cons, evD_zero, evD_nil]
        refine ⟨⟨k + 1, hlt, ?_⟩, hms⟩
        rw [s0, s1, s2, s3, s4]
        simp only [Int.reduceEq, if_false, if_true, Int.add_zero, Int.natCast_add, Int.natCast_one]
    · have hk' : k = A.length := by omega
      subst hk'
      have hlt' : ¬ ((A.length : Int) < A.length) := by omega
      unfold kdV
      simp (disch := (first | omega | assumption)) only [hlt', List.take_length, go_sem, Int.reduceEq, Int.reduceLT, Int.reduceLE, Int.reduceNeg, Nat.reduceAdd, Nat.reduceLT, Nat.reduceEqDiff, Nat.reduceMul, Nat.reduceLeDiff, reduceIte, Nat.reduceBEq, reduceCtorEq, evP_D, evD_guard, evD_cons, evD_zero, evD_nil]
end Go.Proofs.YtdmkmbaaemhhhaaDoor
namespace Go.Proofs.YtdmkmbaaemhhhaaDoor
open Go Go.Ev Go.RowKit Go.Acc
set_option maxHeartbeats 4000000
set_option linter.unusedSimpArgs false
set_option linter.unusedVariables false
attribute [local go_sem] mutV getB mvB bkB V.mv V.mvL V.bk V.bkL Blk.mv Blk.bk posN nmN backN noDup app_writes setHL_nil setHL_cons postM_ret postM_normal resM hasB_nil hasB_cons St.mut names_nil names_cons sortV cellOf mkX_M mkX_S mkX_ln lnL_at ms0_mt ms0_st V.lone V.loneL List.zip_cons_cons List.zip_nil_left Option.isNone_none bornV subE partR unB bytesW boundsV ownP sliceW copyV clearV lenM takeV tk1 mapsV mkMapV hintOk lookV updV mapKE keyOk V.key app_lend callW_fn lendV postL_ret postL_normal postT_ret postT_normal takeR St.lent mkX_L bin_eql_vz bin_eql_zv bin_eql_rz bin_eql_zr bin_eql_zz bin_neq_vz bin_neq_zv bin_neq_rz bin_neq_zr bin_neq_zz eqH nilEq nonE plainI gOf_bool gOf_skip g_some g_none Int.ofNat_zero Int.cast_ofNat_Int Bool.false_and Bool.and_false sliceV noBox elemsZ V.scrub V.scrubL Blk.scrub appendV isSlice maxLen_eq leT List.contains_nil List.contains_cons nvL_at fzL_at fillV V.plain V.plainL Blk.plain List.size_toArray mapO_nil mapO_cons Option.isNone_some beqT beqF oI_not mkX_e phi_nil phi_cons bin_eql_bool bin_neq_bool bin_eql_agg bin_neq_agg eqV eqFs eqK_int eqK_bool' eqK_str mkX_T mkX_Φ mkX_n mkX_f mkX_d mkX_r nv0_at fz0_at evQ_dr evP_W evW_nil evW_cons evW_guard okW_eq tame_none tame_new tame_write wb_none wb_new wb_write okU_some offW_none offW_some touchOf V.noRef V.noRefL Option.isSome_some Option.isSome_none mild_none mild_new Option.getD_some Option.getD_none evQ_seq evQ_region evQ_block evQ_cond evQ_ret evQ_skip evQ_exit evO_cons evO_nil evO_guard freezeL_nil oS_some oS_none oS_ite oS_ite' oB_bool oI_true oI_false oE_normal oE_exit oE_ret bQ_normal bQ_ret bQ_exit lQ_normal lQ_ret lQ_exit List.zipIdx_cons List.zipIdx_nil List.map_cons List.map_nil evalOp opd_const opd_tmp opd_func ofC_int ofC_bool ofC_str ofC_nil app_none app_new app_write app_change putE_some putE_none setA_cons setA_nil setH_cons setH_nil mapA_cons mapA_nil look_cons look_nil e_mk h_mk drop_nil drop_mk keep_mk dstOk_some dstOk_none guardT_eq true_and and_true Bool.not_false Bool.not_true selB_true selB_false mem_nil mem_cons kpL_nil kpL_cons drL_nil drL_cons closed_mk V.refsIn V.refsInL Blk.refsIn List.all_cons List.all_nil lenV bin_add bin_sub bin_mul bin_quo bin_rem bin_eql bin_neq bin_lss bin_leq bin_gtr bin_geq un_neg un_not post_ret post_normal St.init Bool.false_eq_true List.length_map Bool.or_false Bool.or_true Bool.false_or Bool.true_or beq_self_eq_true Option.map_some Option.map_none Option.bind_some List.getElem?_cons_zero List.getElem?_cons_succ scalar stor isAggV V.cells List.cons_append List.nil_append if_true if_false wrap_of callV V.dataL V.data Bool.and_true Bool.true_and fresh names V.ren V.renL retV resV packL packV packC getBlks wrapR subV putV decide_true decide_false TK.agg List.length_cons List.length_nil List.take_succ_cons List.take_zero List.drop_succ_cons List.drop_zero List.take_nil List.drop_nil Nat.zero_add Nat.add_zero List.append_nil List.getElem?_nil elemsV ro ro0 ro1 roC ty1 ty2 ty3 ty4 ty5 ty6 ty7 ty8 ty9 ty10 ty11 ty12 ty13 ty14 ty15 ty16 ty17 ty18 ty19 ty21 ty22 ty23 ty24 ty26 ty27 ty28 ty29 ty30 ty31 ty32 ty33 ty34 ty35 ty36 ty37 ty38 ty39 ty40 ty41 ty42 ty44 ty45 ty47 ty49 ty51 ty53 ty54 ty55 ty56 ty57 ty58 ty59 ty60 ty61 ty62 ty63 ty64 ty65 ty66 ty67 ty68 ty69 ty70 ty71 ty72 ty73 ty74 ty75 ty76 ty77 ty78 ty79 ty80 ty81 ty82 ty83 ty84 ty85 ty86 ty87 ty88 ty89 ty90 ty92 ty93 ty94 ty95 ty96 ty97 ty98 ty99 ty100 ty101 ty102 ty103 ty104 ty105 ty107 ty108 ty109 ty110 ty111 ty112 ty113 ty114 ty115 ty116 ty117 ty118 ty119 ty123 ty124 ty125 ty126 ty127 ty128 ty129 ty130 ty131 ty132 ty133 ty135 ty136 ty137 ty138 ty139 ty141 ty142 ty143 ty144 ty146 ty147 ty148 ty149 ty153 ty154 ty155 ty156 ty157 ty158 ty159 ty160 ty161 eqs29 eqs61 eqs79 eqs94
theorem tlook_zero {A : List (ByteArray × Int)} {E : List En} {s day : Int} (hz : tlookE A E s day = 0) : bkChk A E s = 0 ∧ 0 ≤ day ∧ day ≤ 292193 := by
  unfold tlookE at hz
  by_cases h : bkChk A E s = 0
  · rw [if_neg (fun hh => hh h)] at hz
    by_cases hd : 0 ≤ day ∧ day ≤ 292193
    · exact ⟨h, hd⟩
    · rw [if_neg hd] at hz; omega
  · rw [if_pos h] at hz; exact absurd hz h
def profE (A : List (ByteArray × Int)) (E : List En) (s f t : Int) : Int := if tlookE A E s f ≠ 0 then tlookE A E s f else if (0 ≤ t ∧ t ≤ 292193) ∧ f ≤ t then 0 else 1
def profN (A : List (ByteArray × Int)) (E : List En) (s f t : Int) : Int := if profE A E s f t = 0 then -kdS E f t 3 A - kdS E f t 4 A else 0
set_option maxHeartbeats 4000000 in
theorem profit_sound {J : World → Prop} (hJ : Stable J) (A : List (ByteArray × Int)) (E : List En) (s f t : Int) (hE : E.length ≤ maxLen) :
    SoundAt Tryd.prog J 19 [bkV A E s, .int .i64 f, .int .i64 t] (.tup [.int .i64 (profN A E s f t), .int .i64 (profE A E s f t)]) [] := by
  have hL := tlook_sound hJ A E s f hE
  unfold bkV at hL ⊢
  by_cases hz : tlookE A E s f = 0
  case neg =>
    have e1 : profE A E s f t = tlookE A E s f := if_pos hz
    have e2 : profN A E s f t = 0 := by unfold profN; rw [e1, if_neg hz]
    refine evFn (l := [(46, at1 _ (.int .i64 (tlookE A E s f), []))]) (nv := nv0) (fz := fz0) (dr := dr19) (dd := dd19) (lam := []) (ms := ms0) ⟨at1_snd hL, trivial⟩ hJ trivial ms0_ok Tryd.func19 rfl rfl (Nat.le_of_ble_eq_true rfl) (Nat.le_of_ble_eq_true rfl) drOk19 ?_
    dsimp only [Tryd.f19, dr19, dd19, Option.getD_some]
    refine ev_start ?_
    simp (disch := omega) only [at1_eq, hz, e1, e2, go_sem, Int.reduceEq, Int.reduceLT, Int.reduceLE, Int.reduceNeg, Nat.reduceAdd, Nat.reduceLT, Nat.reduceEqDiff, Nat.reduceMul, Nat.reduceLeDiff, reduceIte, Nat.reduceBEq, reduceCtorEq, evP_D, evD_guard, evD_cons, evD_zero, evD_nil]
  by_cases hd : 0 ≤ t ∧ t ≤ 292193
  case neg =>
    have e1 : profE A E s f t = 1 := by unfold profE; rw [if_neg (fun h => h hz), if_neg (fun h => hd h.1)]
    have e2 : profN A E s f t = 0 := by unfold profN; rw [e1]; rfl
    have hd' := decide_eq_false hd
    refine evFn (l := [(46, at1 _ (.int .i64 (tlookE A E s f), [])), (21, dayF)]) (nv := nv0) (fz := fz0) (dr := dr19) (dd := dd19) (lam := []) (ms := ms0) ⟨at1_snd hL, is_snd hJ, trivial⟩ hJ trivial ms0_ok Tryd.func19 rfl rfl (Nat.le_of_ble_eq_true rfl) (Nat.le_of_ble_eq_true rfl) drOk19 ?_
    dsimp only [Tryd.f19, dr19, dd19, Option.getD_some]
    refine ev_start ?_
    simp (disch := omega) only [at1_eq, dayF_eq, hz, hd', e1, e2, go_sem, Int.reduceEq, Int.reduceLT, Int.reduceLE, Int.reduceNeg, Nat.reduceAdd, Nat.reduceLT, Nat.reduceEqDiff, Nat.reduceMul, Nat.reduceLeDiff, reduceIte, Nat.reduceBEq, reduceCtorEq, evP_D, evD_guard, evD_cons, evD_zero, evD_nil]
  by_cases hft : t < f
  · have e1 : profE A E s f t = 1 := by unfold profE; rw [if_neg (fun h => h hz), if_neg (fun h => by omega)]
    have e2 : profN A E s f t = 0 := by unfold profN; rw [e1]; rfl
    have hd' := decide_eq_true hd
    refine evFn (l := [(46, at1 _ (.int .i64 (tlookE A E s f), [])), (21, dayF)]) (nv := nv0) (fz := fz0) (dr := dr19) (dd := dd19) (lam := []) (ms := ms0) ⟨at1_snd hL, is_snd hJ, trivial⟩ hJ trivial ms0_ok Tryd.func19 rfl rfl (Nat.le_of_ble_eq_true rfl) (Nat.le_of_ble_eq_true rfl) drOk19 ?_
    dsimp only [Tryd.f19, dr19, dd19, Option.getD_some]
    refine ev_start ?_
    simp (disch := omega) only [at1_eq, dayF_eq, hz, hd', hft, e1, e2, go_sem, Int.reduceEq, Int.reduceLT, Int.reduceLE, Int.reduceNeg, Nat.reduceAdd, Nat.reduceLT, Nat.reduceEqDiff, Nat.reduceMul, Nat.reduceLeDiff, reduceIte, Nat.reduceBEq, reduceCtorEq, evP_D, evD_guard, evD_cons, evD_zero, evD_nil]
  have hc := (tlook_zero hz).1
  have hK := kinds_sound hJ A E s f t hc
  obtain ⟨h1, _, h3, h4⟩ := bkChk_ok hc
  have hEn : ∀ x ∈ E, enX x = 0 := fun x hx => (h4 x hx).1
  have hA24 := (acChk_codes h1).1
  have b3 := kdS_bd hEn h3 f t 3 hA24 A.length
  have b4 := kdS_bd hEn h3 f t 4 hA24 A.length
  rw [List.take_length] at b3 b4
  have e1 : profE A E s f t = 0 := by unfold profE; rw [if_neg (fun h => h hz), if_pos ⟨hd, by omega⟩]
  have e2 : profN A E s f t = -kdS E f t 3 A - kdS E f t 4 A := by unfold profN; rw [if_pos e1]
  have hd' := decide_eq_true hd
  unfold bkV kdV at hK
  refine evFn (l := [(46, at1 _ (.int .i64 (tlookE A E s f), [])), (21, dayF), (47, at1 _ (_, []))]) (nv := nv0) (fz := fz0) (dr := dr19) (dd := dd19) (lam := []) (ms := ms0) ⟨at1_snd hL, is_snd hJ, at1_snd hK, trivial⟩ hJ trivial ms0_ok Tryd.func19 rfl rfl (Nat.le_of_ble_eq_true rfl) (Nat.le_of_ble_eq_true rfl) drOk19 ?_
  dsimp only [Tryd.f19, dr19, dd19, Option.getD_some]
  refine ev_start ?_
  simp (disch := omega) only [at1_eq, dayF_eq, hz, hd', hft, e1, e2, idx5_0, idx5_1, idx5_2, idx5_3, idx5_4, Int.zero_sub, go_sem, Int.reduceEq, Int.reduceLT, Int.reduceLE, Int.reduceNeg, Nat.reduceAdd, Nat.reduceLT, Nat.reduceEqDiff, Nat.reduceMul, Nat.reduceLeDiff, reduceIte, Nat.reduceBEq, reduceCtorEq, evP_D, evD_guard, evD_cons, evD_zero, evD_nil]
set_option maxHeartbeats 4000000 in
theorem sheet_sound {J : World → Prop} (hJ : Stable J) (A : List (ByteArray × Int)) (E : List En) (s day : Int) (hE : E.length ≤ maxLen) :
    SoundAt Tryd.prog J 18 [bkV A E s, .int .i64 day] (.tup [.int .i64 (if tlookE A E s day = 0 then kdS E 0 day 0 A else 0), .int .i64 (if tlookE A E s day = 0 then -kdS E 0 day 1 A else 0), .int .i64 (if tlookE A E s day = 0 then -kdS E 0 day 2 A else 0), .int .i64 (tlookE A E s day)]) [] := by
  have hL := tlook_sound hJ A E s day hE
  unfold bkV at hL ⊢
  by_cases hz : tlookE A E s day = 0
  case neg =>
    refine evFn (l := [(46, at1 _ (.int .i64 (tlookE A E s day), []))]) (nv := nv0) (fz := fz0) (dr := dr18) (dd := dd18) (lam := []) (ms := ms0) ⟨at1_snd hL, trivial⟩ hJ trivial ms0_ok Tryd.func18 rfl rfl (Nat.le_of_ble_eq_true rfl) (Nat.le_of_ble_eq_true rfl) drOk18 ?_
    dsimp only [Tryd.f18, dr18, dd18, Option.getD_some]
    refine ev_start ?_
    simp (disch := omega) only [at1_eq, hz, if_false, go_sem, Int.reduceEq, Int.reduceLT, Int.reduceLE, Int.reduceNeg, Nat.reduceAdd, Nat.reduceLT, Nat.reduceEqDiff, Nat.reduceMul, Nat.reduceLeDiff, reduceIte, Nat.reduceBEq, reduceCtorEq, evP_D, evD_guard, evD_cons, evD_zero, evD_nil]
  have hc := (tlook_zero hz).1
  have hK := kinds_sound hJ A E s 0 day hc
  obtain ⟨h1, _, h3, h4⟩ := bkChk_ok hc
  have hEn : ∀ x ∈ E, enX x = 0 := fun x hx => (h4 x hx).1
  have hA24 := (acChk_codes h1).1
  have b1 := kdS_bd hEn h3 0 day 1 hA24 A.length
  have b2 := kdS_bd hEn h3 0 day 2 hA24 A.length
  rw [List.take_length] at b1 b2
  unfold bkV kdV at hK
  rw [if_pos hz, if_pos hz, if_pos hz]
  refine evFn (l := [(46, at1 _ (.int .i64 (tlookE A E s day), [])), (47, at1 _ (_, []))]) (nv := nv0) (fz := fz0) (dr := dr18) (dd := dd18) (lam := []) (ms := ms0) ⟨at1_snd hL, at1_snd hK, trivial⟩ hJ trivial ms0_ok Tryd.func18 rfl rfl (Nat.le_of_ble_eq_true rfl) (Nat.le_of_ble_eq_true rfl) drOk18 ?_
  dsimp only [Tryd.f18, dr18, dd18, Option.getD_some]
  refine ev_start ?_
  simp (disch := omega) only [at1_eq, hz, idx5_0, idx5_1, idx5_2, idx5_3, idx5_4, Int.zero_sub, go_sem, Int.reduceEq, Int.reduceLT, Int.reduceLE, Int.reduceNeg, Nat.reduceAdd, Nat.reduceLT, Nat.reduceEqDiff, Nat.reduceMul, Nat.reduceLeDiff, reduceIte, Nat.reduceBEq, reduceCtorEq, evP_D, evD_guard, evD_cons, evD_zero, evD_nil]
end Go.Proofs.YtdmkmbaaemhhhaaDoor
namespace Go.Proofs.YtdmkmbaaemhhhaaDoor
open Go Go.Ev Go.RowKit Go.Acc
set_option maxHeartbeats 4000000
set_option linter.unusedSimpArgs false
set_option linter.unusedVariables false
attribute [local go_sem] mutV getB mvB bkB V.mv V.mvL V.bk V.bkL Blk.mv Blk.bk posN nmN backN noDup app_writes setHL_nil setHL_cons postM_ret postM_normal resM hasB_nil hasB_cons St.mut names_nil names_cons sortV cellOf mkX_M mkX_S mkX_ln lnL_at ms0_mt ms0_st V.lone V.loneL List.zip_cons_cons List.zip_nil_left Option.isNone_none bornV subE partR unB bytesW boundsV ownP sliceW copyV clearV lenM takeV tk1 mapsV mkMapV hintOk lookV updV mapKE keyOk V.key app_lend callW_fn lendV postL_ret postL_normal postT_ret postT_normal takeR St.lent mkX_L bin_eql_vz bin_eql_zv bin_eql_rz bin_eql_zr bin_eql_zz bin_neq_vz bin_neq_zv bin_neq_rz bin_neq_zr bin_neq_zz eqH nilEq nonE plainI gOf_bool gOf_skip g_some g_none Int.ofNat_zero Int.cast_ofNat_Int Bool.false_and Bool.and_false sliceV noBox elemsZ V.scrub V.scrubL Blk.scrub appendV isSlice maxLen_eq leT List.contains_nil List.contains_cons nvL_at fzL_at fillV V.plain V.plainL Blk.plain List.size_toArray mapO_nil mapO_cons Option.isNone_some beqT beqF oI_not mkX_e phi_nil phi_cons bin_eql_bool bin_neq_bool bin_eql_agg bin_neq_agg eqV eqFs eqK_int eqK_bool' eqK_str mkX_T mkX_Φ mkX_n mkX_f mkX_d mkX_r nv0_at fz0_at evQ_dr evP_W evW_nil evW_cons evW_guard okW_eq tame_none tame_new tame_write wb_none wb_new wb_write okU_some offW_none offW_some touchOf V.noRef V.noRefL Option.isSome_some Option.isSome_none mild_none mild_new Option.getD_some Option.getD_none evQ_seq evQ_region evQ_block evQ_cond evQ_ret evQ_skip evQ_exit evO_cons evO_nil evO_guard freezeL_nil oS_some oS_none oS_ite oS_ite' oB_bool oI_true oI_false oE_normal oE_exit oE_ret bQ_normal bQ_ret bQ_exit lQ_normal lQ_ret lQ_exit List.zipIdx_cons List.zipIdx_nil List.map_cons List.map_nil evalOp opd_const opd_tmp opd_func ofC_int ofC_bool ofC_str ofC_nil app_none app_new app_write app_change putE_some putE_none setA_cons setA_nil setH_cons setH_nil mapA_cons mapA_nil look_cons look_nil e_mk h_mk drop_nil drop_mk keep_mk dstOk_some dstOk_none guardT_eq true_and and_true Bool.not_false Bool.not_true selB_true selB_false mem_nil mem_cons kpL_nil kpL_cons drL_nil drL_cons closed_mk V.refsIn V.refsInL Blk.refsIn List.all_cons List.all_nil lenV bin_add bin_sub bin_mul bin_quo bin_rem bin_eql bin_neq bin_lss bin_leq bin_gtr bin_geq un_neg un_not post_ret post_normal St.init Bool.false_eq_true List.length_map Bool.or_false Bool.or_true Bool.false_or Bool.true_or beq_self_eq_true Option.map_some Option.map_none Option.bind_some List.getElem?_cons_zero List.getElem?_cons_succ scalar stor isAggV V.cells List.cons_append List.nil_append if_true if_false wrap_of callV V.dataL V.data Bool.and_true Bool.true_and fresh names V.ren V.renL retV resV packL packV packC getBlks wrapR subV putV decide_true decide_false TK.agg List.length_cons List.length_nil List.take_succ_cons List.take_zero List.drop_succ_cons List.drop_zero List.take_nil List.drop_nil Nat.zero_add Nat.add_zero List.append_nil List.getElem?_nil elemsV ro ro0 ro1 roC ty1 ty2 ty3 ty4 ty5 ty6 ty7 ty8 ty9 ty10 ty11 ty12 ty13 ty14 ty15 ty16 ty17 ty18 ty19 ty21 ty22 ty23 ty24 ty26 ty27 ty28 ty29 ty30 ty31 ty32 ty33 ty34 ty35 ty36 ty37 ty38 ty39 ty40 ty41 ty42 ty44 ty45 ty47 ty49 ty51 ty53 ty54 ty55 ty56 ty57 ty58 ty59 ty60 ty61 ty62 ty63 ty64 ty65 ty66 ty67 ty68 ty69 ty70 ty71 ty72 ty73 ty74 ty75 ty76 ty77 ty78 ty79 ty80 ty81 ty82 ty83 ty84 ty85 ty86 ty87 ty88 ty89 ty90 ty92 ty93 ty94 ty95 ty96 ty97 ty98 ty99 ty100 ty101 ty102 ty103 ty104 ty105 ty107 ty108 ty109 ty110 ty111 ty112 ty113 ty114 ty115 ty116 ty117 ty118 ty119 ty123 ty124 ty125 ty126 ty127 ty128 ty129 ty130 ty131 ty132 ty133 ty135 ty136 ty137 ty138 ty139 ty141 ty142 ty143 ty144 ty146 ty147 ty148 ty149 ty153 ty154 ty155 ty156 ty157 ty158 ty159 ty160 ty161 eqs29 eqs61 eqs79 eqs94
theorem bkV_inj {A : List (ByteArray × Int)} {E E' : List En} {s s' : Int} (h : bkV A E s = bkV A E' s') : E = E' ∧ s = s' := by
  simp only [bkV, V.agg.injEq, List.cons.injEq, V.row.injEq, V.int.injEq, true_and, and_true] at h
  exact ⟨enW_inj h.1, h.2⟩
theorem sheet_exS {J : World → Prop} (hJ : Stable J) (A : List (ByteArray × Int)) (d : Int) : ∃ F : List V → Option (V × List Ev.Blk), (∀ (E : List En) (s : Int), E.length ≤ maxLen → F [bkV A E s, .int .i64 d] = some (.tup [.int .i64 (if tlookE A E s d = 0 then kdS E 0 d 0 A else 0), .int .i64 (if tlookE A E s d = 0 then -kdS E 0 d 1 A else 0), .int .i64 (if tlookE A E s d = 0 then -kdS E 0 d 2 A else 0), .int .i64 (tlookE A E s d)], [])) ∧ Snd Tryd.prog J 18 F := by
  obtain ⟨F, h1, h2⟩ := fam_ex (P := Tryd.prog) (J := J) (f := 18) (fun x : { x : List En × Int // x.1.length ≤ maxLen } => [bkV A x.1.1 x.1.2, .int .i64 d]) (fun x => (.tup [.int .i64 (if tlookE A x.1.1 x.1.2 d = 0 then kdS x.1.1 0 d 0 A else 0), .int .i64 (if tlookE A x.1.1 x.1.2 d = 0 then -kdS x.1.1 0 d 1 A else 0), .int .i64 (if tlookE A x.1.1 x.1.2 d = 0 then -kdS x.1.1 0 d 2 A else 0), .int .i64 (tlookE A x.1.1 x.1.2 d)], [])) (fun i j h => by
    simp only [List.cons.injEq, and_true] at h
    obtain ⟨h1, h2⟩ := bkV_inj h
    rw [h1, h2]) fun x => sheet_sound hJ A x.1.1 x.1.2 d x.2
  exact ⟨F, fun E s hE => h1 ⟨(E, s), hE⟩, h2⟩
theorem profit_exS {J : World → Prop} (hJ : Stable J) (A : List (ByteArray × Int)) (d : Int) : ∃ F : List V → Option (V × List Ev.Blk), (∀ (E : List En) (s : Int), E.length ≤ maxLen → F [bkV A E s, .int .i64 0, .int .i64 d] = some (.tup [.int .i64 (profN A E s 0 d), .int .i64 (profE A E s 0 d)], [])) ∧ Snd Tryd.prog J 19 F := by
  obtain ⟨F, h1, h2⟩ := fam_ex (P := Tryd.prog) (J := J) (f := 19) (fun x : { x : List En × Int // x.1.length ≤ maxLen } => [bkV A x.1.1 x.1.2, .int .i64 0, .int .i64 d]) (fun x => (.tup [.int .i64 (profN A x.1.1 x.1.2 0 d), .int .i64 (profE A x.1.1 x.1.2 0 d)], [])) (fun i j h => by
    simp only [List.cons.injEq, and_true] at h
    obtain ⟨h1, h2⟩ := bkV_inj h
    rw [h1, h2]) fun x => profit_sound hJ A x.1.1 x.1.2 0 d x.2
  exact ⟨F, fun E s hE => h1 ⟨(E, s), hE⟩, h2⟩
set_option maxRecDepth 100000 in
set_option maxHeartbeats 16000000 in
theorem year_law (A : List (ByteArray × Int)) (E : List En) (s : Int) (l : List Job.Pl) (at_ : Int) (code : ByteArray) (hE : E.length ≤ maxLen) :
    SoundAt Tryd.prog Tab 4 [bkV A E s, .row 7 (l.map Job.plV), .int .i64 at_, .str code] (.bool true) [] := by
  have hJ := stableTab
  have hBg := begun_sound hJ
  obtain ⟨WF, hWF, hWFs⟩ := within_ex hJ
  have W1 := hWF at_ 292194 (by decide) (by decide)
  have wb := wthn_bd at_ (n := 292194) (by decide)
  generalize wthn at_ 292194 = d at *
  have hd : 0 ≤ d ∧ d ≤ 292193 := ⟨wb.1, by omega⟩
  have hRun := jrun_sound A E s l d hE
  unfold jrV at hRun
  by_cases hj : jrE A E s l d = 0
  case neg =>
    rw [if_neg hj] at hRun
    unfold zbV at hRun
    unfold bkV at hRun ⊢
    generalize jrE A E s l d = q at *
    refine evFn (l := [(12, at1 _ (_, [])), (13, WF), (14, at1 _ (_, []))]) (nv := nv0) (fz := fz0) (dr := dr4) (dd := dd4) (lam := []) (ms := ms0) ⟨at1_snd hBg, hWFs, at1_snd hRun, trivial⟩ hJ trivial ms0_ok Tryd.func4 rfl rfl (Nat.le_of_ble_eq_true rfl) (Nat.le_of_ble_eq_true rfl) drOk4 ?_
    dsimp only [Tryd.f4, dr4, dd4, Option.getD_some]
    refine ev_start ?_
    simp (disch := omega) only [at1_eq, W1, hj, go_sem, Int.reduceEq, Int.reduceLT, Int.reduceLE, Int.reduceNeg, Nat.reduceAdd, Nat.reduceLT, Nat.reduceEqDiff, Nat.reduceMul, Nat.reduceLeDiff, reduceIte, Nat.reduceBEq, reduceCtorEq, evP_D, evD_guard, evD_cons, evD_zero, evD_nil]
  rw [if_pos hj, hj] at hRun
  -- the book that was run
  have hE1 : bkChk A (runB A s E (Job.dueL d l)).2 s = 0 := by
    unfold jrE at hj
    by_cases hz : bkChk A E s = 0
    · rw [if_neg (fun h => h hz)] at hj
      by_cases hp : Job.plChk keyOk' codeOk l = 0
      · rw [if_neg (fun h => h hp), if_neg (fun h => h hd)] at hj
        exact runB_ok hz hj
      · rw [if_pos hp] at hj; exact absurd hj hp
    · rw [if_pos hz] at hj; exact absurd hj hz
  generalize (runB A s E (Job.dueL d l)).2 = E1 at *
  have hE1l : E1.length ≤ 60 := (bkChk_iff.1 hE1).2.2.1
  have hE1m : E1.length ≤ maxLen := by simp only [maxLen]; omega
  obtain ⟨kc, hkc⟩ : ∃ kc : ByteArray, kc = ⟨#[99, 108, 111, 115, 101]⟩ := ⟨_, rfl⟩
  have hCl := close_sound hJ A E1 s kc d code hE1m
  unfold clV at hCl
  by_cases hc : clE A E1 s kc d code = 0
  case neg =>
    rw [if_neg hc] at hCl
    unfold zbV at hCl
    unfold bkV at hRun hCl ⊢
    generalize clE A E1 s kc d code = q at *
    rw [hkc] at hCl
    refine evFn (l := [(12, at1 _ (_, [])), (13, WF), (14, at1 _ (_, [])), (15, at1 _ (_, []))]) (nv := nv0) (fz := fz0) (dr := dr4) (dd := dd4) (lam := []) (ms := ms0) ⟨at1_snd hBg, hWFs, at1_snd hRun, at1_snd hCl, trivial⟩ hJ trivial ms0_ok Tryd.func4 rfl rfl (Nat.le_of_ble_eq_true rfl) (Nat.le_of_ble_eq_true rfl) drOk4 ?_
    dsimp only [Tryd.f4, dr4, dd4, Option.getD_some]
    refine ev_start ?_
    simp (disch := omega) only [at1_eq, W1, hc, go_sem, Int.reduceEq, Int.reduceLT, Int.reduceLE, Int.reduceNeg, Nat.reduceAdd, Nat.reduceLT, Nat.reduceEqDiff, Nat.reduceMul, Nat.reduceLeDiff, reduceIte, Nat.reduceBEq, reduceCtorEq, evP_D, evD_guard, evD_cons, evD_zero, evD_nil]
  rw [if_pos hc, hc] at hCl
  have hGt := get_sound hJ A E1 s kc hE1m
  unfold gtV gtE at hGt
  rw [if_neg (fun h => h hE1), if_neg (fun h => h hE1)] at hGt
  cases hg : getE kc E1 with
  | some y =>
    rw [hg] at hGt
    simp only at hGt
    obtain ⟨yk, yd, yl⟩ := y
    rw [enW_mk] at hGt
    generalize hE2 : postB E1 (clsX kc E1 d code A) = E2 at *
    rw [hkc] at hCl hGt
    unfold bkV at hRun hCl hGt ⊢
    refine evFn (l := [(12, at1 _ (_, [])), (13, WF), (14, at1 _ (_, [])), (15, at1 _ (_, [])), (16, at1 _ (_, []))]) (nv := nv0) (fz := fz0) (dr := dr4) (dd := dd4) (lam := []) (ms := ms0) ⟨at1_snd hBg, hWFs, at1_snd hRun, at1_snd hCl, at1_snd hGt, trivial⟩ hJ trivial ms0_ok Tryd.func4 rfl rfl (Nat.le_of_ble_eq_true rfl) (Nat.le_of_ble_eq_true rfl) drOk4 ?_
    dsimp only [Tryd.f4, dr4, dd4, Option.getD_some]
    refine ev_start ?_
    simp (disch := omega) only [at1_eq, W1, go_sem, Int.reduceEq, Int.reduceLT, Int.reduceLE, Int.reduceNeg, Nat.reduceAdd, Nat.reduceLT, Nat.reduceEqDiff, Nat.reduceMul, Nat.reduceLeDiff, reduceIte, Nat.reduceBEq, reduceCtorEq, evP_D, evD_guard, evD_cons, evD_zero, evD_nil]
  | none =>
    rw [hg] at hGt
    simp only at hGt
    unfold zeV at hGt
    have hkp : kindR code A = (2, 0) ∧ postE A E1 s (clsX kc E1 d code A) = 0 := by
      unfold clE at hc
      rw [if_neg (fun h => h hE1), if_neg (fun h => h hd)] at hc
      by_cases h1 : (kindR code A).2 = 0
      · rw [if_neg (fun h => h h1)] at hc
        by_cases h2 : (kindR code A).1 = 2
        · rw [if_neg (fun h => h h2)] at hc
          by_cases h3 : clsL E1 d A = []
          · rw [if_pos h3] at hc; omega
          · rw [if_neg h3] at hc
            by_cases h4 : postE A E1 s (clsX kc E1 d code A) = 0
            · exact ⟨Prod.ext h2 h1, h4⟩
            · rw [if_pos h4] at hc; exact absurd hc h4
        · rw [if_pos h2] at hc; omega
      · rw [if_pos h1] at hc; exact absurd hc h1
    have hL := closed hkp.1 hkp.2 hg hd
    simp only at hL
    generalize hE2 : postB E1 (clsX kc E1 d code A) = E2 at *
    obtain ⟨l1, l2, l3, l4, l5⟩ := hL
    have hE2l : E2.length ≤ 60 := (bkChk_iff.1 l1).2.2.1
    have hE2m : E2.length ≤ maxLen := by simp only [maxLen]; omega
    obtain ⟨h1, _, _, hEn⟩ := bkChk_ok l1
    have hEn2 : ∀ x ∈ E2, enX x = 0 := fun x hx => (hEn x hx).1
    have hEn1 : ∀ x ∈ E1, enX x = 0 := fun x hx => ((bkChk_ok hE1).2.2.2 x hx).1
    have hA24 := (acChk_codes h1).1
    obtain ⟨SF, hSF, hSFs⟩ := sheet_exS hJ A d
    obtain ⟨PF, hPF, hPFs⟩ := profit_exS hJ A d
    have hT := trial_sound hJ A E2 d d hE2m
    have hB := bcheck_sound hJ A E2 d hE2m
    have S2 := hSF E2 d hE2m
    have S1 := hSF E1 s hE1m
    have P2 := hPF E2 d hE2m
    have P1 := hPF E1 s hE1m
    have k2 : tlookE A E2 d d = 0 := by unfold tlookE; rw [if_neg (fun h => h l1), if_pos hd]
    have k1 : tlookE A E1 s d = 0 := by unfold tlookE; rw [if_neg (fun h => h hE1), if_pos hd]
    have z2 : tlookE A E2 d 0 = 0 := by unfold tlookE; rw [if_neg (fun h => h l1), if_pos ⟨by omega, by omega⟩]
    have z1 : tlookE A E1 s 0 = 0 := by unfold tlookE; rw [if_neg (fun h => h hE1), if_pos ⟨by omega, by omega⟩]
    have pe2 : profE A E2 d 0 d = 0 := by unfold profE; rw [if_neg (fun h => h z2), if_pos ⟨hd, hd.1⟩]
    have pe1 : profE A E1 s 0 d = 0 := by unfold profE; rw [if_neg (fun h => h z1), if_pos ⟨hd, hd.1⟩]
    have pn2 : profN A E2 d 0 d = 0 := by unfold profN; rw [if_pos pe2]; exact l4
    have pn1 : profN A E1 s 0 d = -kdS E1 0 d 3 A - kdS E1 0 d 4 A := by unfold profN; rw [if_pos pe1]
    rw [k2, if_pos rfl, if_pos rfl, l2] at hT
    rw [l1] at hB
    rw [k2, if_pos rfl, if_pos rfl, if_pos rfl] at S2
    rw [k1, if_pos rfl, if_pos rfl, if_pos rfl] at S1
    rw [pe2, pn2] at P2
    rw [pe1, pn1] at P1
    have b21 := kdS_bd hEn2 hE2l 0 d 1 hA24 A.length
    have b22 := kdS_bd hEn2 hE2l 0 d 2 hA24 A.length
    have b12 := kdS_bd hEn1 hE1l 0 d 2 hA24 A.length
    have b13 := kdS_bd hEn1 hE1l 0 d 3 hA24 A.length
    have b14 := kdS_bd hEn1 hE1l 0 d 4 hA24 A.length
    rw [List.take_length] at b21 b22 b12 b13 b14
    generalize kdS E2 0 d 0 A = u0 at *
    generalize kdS E2 0 d 1 A = u1 at *
    generalize kdS E2 0 d 2 A = u2 at *
    generalize kdS E1 0 d 0 A = v0 at *
    generalize kdS E1 0 d 1 A = v1 at *
    generalize kdS E1 0 d 2 A = v2 at *
    generalize kdS E1 0 d 3 A = v3 at *
    generalize kdS E1 0 d 4 A = v4 at *
    generalize trC E2 d A = tc at *
    rw [hkc] at hCl hGt
    unfold bkV at hRun hCl hGt hT hB S2 S1 P2 P1 ⊢
    have q1 : (u0 : Int) = -u1 + -u2 := by omega
    have q2 : -u2 = -v2 + (-v3 - v4) := by omega
    refine evFn (l := [(12, at1 _ (_, [])), (13, WF), (14, at1 _ (_, [])), (15, at1 _ (_, [])), (16, at1 _ (_, [])), (17, at1 _ (_, [])), (18, SF), (19, PF), (20, at1 _ (_, []))]) (nv := nv0) (fz := fz0) (dr := dr4) (dd := dd4) (lam := []) (ms := ms0) ⟨at1_snd hBg, hWFs, at1_snd hRun, at1_snd hCl, at1_snd hGt, at1_snd hT, hSFs, hPFs, at1_snd hB, trivial⟩ hJ trivial ms0_ok Tryd.func4 rfl rfl (Nat.le_of_ble_eq_true rfl) (Nat.le_of_ble_eq_true rfl) drOk4 ?_
    dsimp only [Tryd.f4, dr4, dd4, Option.getD_some]
    refine ev_start ?_
    simp (disch := omega) only [at1_eq, W1, S2, S1, P2, P1, decide_eq_true q1, decide_eq_true q2, go_sem, Int.reduceEq, Int.reduceLT, Int.reduceLE, Int.reduceNeg, Nat.reduceAdd, Nat.reduceLT, Nat.reduceEqDiff, Nat.reduceMul, Nat.reduceLeDiff, reduceIte, Nat.reduceBEq, reduceCtorEq, evP_D, evD_guard, evD_cons, evD_zero, evD_nil]
end Go.Proofs.YtdmkmbaaemhhhaaDoor
namespace Go.Proofs.YtdmkmbaaemhhhaaDoor
open Go Go.Ev Go.RowKit Go.Acc
set_option maxRecDepth 100000 in
theorem walkTopYear (c0 : V) (h0 : TyV Tryd.prog 9 40 c0) (c1 : V) (h1 : TyV Tryd.prog 9 22 c1) (c2 : V) (h2 : TyV Tryd.prog 9 3 c2) (c3 : V) (h3 : TyV Tryd.prog 9 9 c3) :
    SoundAt Tryd.prog Tab 4 [c0, c1, c2, c3] (.bool true) [] := by
  obtain ⟨A, E, s, rfl, hE⟩ := ty_book (m := 3) h0
  obtain ⟨es, rfl, he, hes⟩ := ty_slice (m := 8) h1 Tryd.underlying22
  have c3 : Tryd.prog.cellsOf 29 = 7 := by kernel_rfl
  obtain ⟨l, rfl, hl⟩ := map_of_all (f := Job.plV) (p := fun p => p.key.size ≤ maxLen) fun x hx => ty_plan (m := 6) (hes x hx)
  obtain ⟨n, rfl, _⟩ := ty_int (m := 8) h2 Tryd.underlying3
  obtain ⟨c, rfl, _⟩ := ty_str (m := 8) h3 Tryd.underlying9
  rw [c3]
  exact year_law A E s l n c hE.1
end Go.Proofs.YtdmkmbaaemhhhaaDoor
namespace Go.Proofs.YtdmkmbaaemhhhaaDoor.topYear
open Go.ChangeShapes Go.WideShapes Go.ChangeAt Go.RowKit Go.Joins
open Go.ChangeMaps (open_string shut_string)
set_option linter.unusedVariables false

theorem own : ownKnob Tryd.prog.godebug = none := by kernel_rfl
theorem laidOut : laidOutB Tryd.prog = true := by kernel_rfl
theorem gTab : Tryd.prog.globalNamed "tallage/cal.lengths" = some 0 := by kernel_rfl
theorem gTabType : (Tryd.prog.globals[0]?).map (·.type) = some 118 := by kernel_rfl
theorem cellsTab : Tryd.prog.cellsOf 118 = 13 := by kernel_rfl
theorem cellsInt : Tryd.prog.cellsOf 3 = 1 := by kernel_rfl
theorem table {W : World} (h : laidMetH Tryd.prog Rows.topYearRow.laid W) : Lib.TabIs Tryd.prog W "tallage/cal.lengths" .i64 [0, 31, 28, 31, 30, 31, 30, 31, 31, 30, 31, 30, 31] :=
  Lib.tabIs_of_head (rest := []) gTab gTabType Tryd.underlying118 Tryd.underlying3 cellsInt cellsTab h
theorem tab {W : World} (h : laidMetH Tryd.prog Rows.topYearRow.laid W) : Tab W := fun i hi => (table h).cell gTab i (by simpa using hi)

set_option maxRecDepth 100000 in
theorem contract (H : Type) (enc : TypeId × Value → H) (W : World) (base : Nat) (args : Array Value) (ds gs : List (DataW H)) (before : List MemPlace)
    (hval0 : ∀ (j : Nat) t v, Tryd.f4.params[j]? = some t → args[j]? = some v → Value.okWide Tryd.prog W .any base t v)
    (hW : DataW.Whole enc Tryd.prog Tryd.f4.params.toList Rows.topYearSpec.vars false W args.toList ds gs before) (hL : laidMetH Tryd.prog Rows.topYearRow.laid W) :
    Calls Tryd.prog 4 args W fun e W' => ∃ v, e = .returned v ∧ Rows.topYearSpec.post enc Tryd.prog Tryd.f4 false true false false W args v W' := by
  have ht := tab hL
  have hval := hval0
  have hW' := hW
  obtain ⟨p, q, hA0, hV, rfl, hfz, hnd⟩ := hW
  have hA : DataW.TrodAll enc Tryd.prog W 0 (fun _ => true) true Tryd.f4.params.toList args.toList ds p := hA0
  rw [Tryd.params4] at hA hval
  obtain ⟨v0, vs0, d0, ds0, p0, q0, hargs, rfl, rfl, h0, r0⟩ := trodAll_cons hA
  obtain ⟨v1, vs1, d1, ds1, p1, q1, rfl, rfl, rfl, h1, r1⟩ := trodAll_cons r0
  obtain ⟨v2, vs2, d2, ds2, p2, q2, rfl, rfl, rfl, h2, r2⟩ := trodAll_cons r1
  obtain ⟨v3, vs3, d3, ds3, p3, q3, rfl, rfl, rfl, h3, r3⟩ := trodAll_cons r2
  obtain ⟨rfl, rfl, rfl⟩ := trodAll_nil r3
  obtain rfl : args = #[v0, v1, v2, v3] := by cases args; simp_all
  obtain ⟨rfl, rfl⟩ := trodVars_none hV
  have k0 := h0
  have lt0 : ∀ x ∈ p0, x.block < W.heap.size := by obtain ⟨m, hm⟩ := k0; exact DataW.trod_lt m _ _ _ hm
  obtain ⟨c0, rel0, ty0⟩ := Ev.arg_read (m := 9) (by kernel_rfl) (hval 0 40 v0 rfl rfl) h0
  have k1 := h1
  have lt1 : ∀ x ∈ p1, x.block < W.heap.size := by obtain ⟨m, hm⟩ := k1; exact DataW.trod_lt m _ _ _ hm
  obtain ⟨c1, rel1, ty1⟩ := Ev.arg_read (m := 9) (by kernel_rfl) (hval 1 22 v1 rfl rfl) h1
  have k2 := h2
  have lt2 : ∀ x ∈ p2, x.block < W.heap.size := by obtain ⟨m, hm⟩ := k2; exact DataW.trod_lt m _ _ _ hm
  obtain ⟨c2, rel2, ty2⟩ := Ev.arg_read (m := 9) (by kernel_rfl) (hval 2 3 v2 rfl rfl) h2
  have k3 := h3
  have lt3 : ∀ x ∈ p3, x.block < W.heap.size := by obtain ⟨m, hm⟩ := k3; exact DataW.trod_lt m _ _ _ hm
  obtain ⟨c3, rel3, ty3⟩ := Ev.arg_read (m := 9) (by kernel_rfl) (hval 3 9 v3 rfl rfl) h3
  clear hA0 hval0
  refine ((walkTopYear c0 ty0 c1 ty1 c2 ty2 c3 ty3).calls rfl ht (vals := [v0, v1, v2, v3]) rfl (Ev.rels_cons rel0 (Ev.rels_cons rel1 (Ev.rels_cons rel2 (Ev.rels_cons rel3 Ev.rels_nil))))).mono fun e W' ⟨he, bel⟩ => ?_
  subst he
  exact ⟨_, rfl, _, _, _, [], _, [], hW', trodAll_mk1 (shut_bool Tryd.underlying4 _), (trodAll_cons_mk (Below.trod laidOut (by kernel_rfl) (of_decide_eq_true (by kernel_rfl)) k0 bel lt0) (trodAll_cons_mk (Below.trod laidOut (by kernel_rfl) (of_decide_eq_true (by kernel_rfl)) k1 bel lt1) (trodAll_cons_mk (Below.trod laidOut (by kernel_rfl) (of_decide_eq_true (by kernel_rfl)) k2 bel lt2) (trodAll_cons_mk (Below.trod laidOut (by kernel_rfl) (of_decide_eq_true (by kernel_rfl)) k3 bel lt3) trodAll_mk0)))), rfl, bel.frame _, fun h => by cases h⟩

noncomputable def laidWorld (os : Os) : World :=
  { World.holding Tryd.prog os ⟨#[], #[], []⟩ with heap := (World.holding Tryd.prog os ⟨#[], #[], []⟩).heap.modify 0 fun
      | .cells _ t frozen => .cells #[.int .i64 0, .int .i64 31, .int .i64 28, .int .i64 31, .int .i64 30, .int .i64 31, .int .i64 30, .int .i64 31, .int .i64 31, .int .i64 30, .int .i64 31, .int .i64 30, .int .i64 31] t frozen
      | o => o }
theorem laid_met (os : Os) : laidMet Tryd.prog Rows.topYearRow.laid ((laidWorld os).forCall (fun _ _ => 0) ⟨#[], #[.agg #[.slice none 0 0, .slice none 0 0, .int .i64 0], .slice none 0 0, .int .i64 0, .string ByteArray.empty], []⟩).memory :=
  laidMet_of_run' 8 (by kernel_rfl) (by kernel_rfl)
theorem reads (os : Os) {H : Type} (enc : TypeId × Value → H) : ∃ places, DataW.whole enc Tryd.prog ((laidWorld os).forCall (fun _ _ => 0) ⟨#[], #[.agg #[.slice none 0 0, .slice none 0 0, .int .i64 0], .slice none 0 0, .int .i64 0, .string ByteArray.empty], []⟩).memory Tryd.f4.params.toList Rows.topYearSpec.vars false (#[.agg #[.slice none 0 0, .slice none 0 0, .int .i64 0], .slice none 0 0, .int .i64 0, .string ByteArray.empty] : Array Value).toList 8 = some ([.agg [.nil, .nil, .lit (.int .i64 0)], .nil, .lit (.int .i64 0), .lit (.string [])], [], places) :=
  ⟨[], by kernel_rfl⟩

set_option maxRecDepth 100000 in
theorem lifted (os : Os) (started : os.Started) (H : Type) (enc : TypeId × Value → H) (F : Stop.Interp) :
    ReturnsInHanded {} Tryd.checked os 4 .any ((OpenSpec.ofChange Rows.topYearSpec).preRow enc Tryd.prog Tryd.f4 Rows.topYearRow.domain false Rows.topYearRow.laid) (((OpenSpec.ofChange Rows.topYearSpec).at F).post enc Tryd.prog Tryd.f4 false true false false) := by
  obtain ⟨places, hx⟩ := reads os enc
  refine returnsInHanded_of_row (C := Tryd.checked) (s := OpenSpec.ofChange Rows.topYearSpec) own started (by kernel_rfl) Tryd.func4
    (witness_row_at (enc := enc) (C := Tryd.checked) false (laidWorld os) #[.agg #[.slice none 0 0, .slice none 0 0, .int .i64 0], .slice none 0 0, .int .i64 0, .string ByteArray.empty] rfl (by kernel_rfl) (by kernel_rfl) (by kernel_rfl)
      (OpenSpec.preRow_of_cond 8 hx (by kernel_rfl) (fun k hk => by cases hk) (by kernel_rfl) (laid_met os))) ?_
  intro W base args ds gs before hval hW _ _ _ hL _ _
  exact contract H enc W base args ds gs before hval hW hL

theorem said : Rows.TopYearSaid :=
  OpenClaim.holds_of_cond 4 Tryd.f4 rfl rfl rfl rfl rfl rfl rfl ⟨rfl, rfl, rfl, rfl, rfl⟩ rfl rfl rfl rfl rfl (by kernel_rfl) Tryd.func4 (by kernel_rfl)
    (of_decide_eq_true (by kernel_rfl)) (by unfold Func.isWrapper; first | (rw [if_pos (by decide +kernel)]; kernel_rfl) | (rw [if_neg (by decide +kernel)]; exact ⟨rfl, rfl⟩))
    (fun os started H enc _ F => by rw [OpenClaim.pre_eq_preRow]; exact lifted os started H enc F)

theorem plain (f : FuncId) (fn : Func) (hf : Tryd.pinned.checked.prog.funcNamed "tallage/taltop.TopYear" = some f) (hfn : Tryd.pinned.checked.prog.funcs[f]? = some fn) :
    false = Tryd.pinned.checked.prog.looks [] ∧ ∀ (j : Nat) t, fn.params[j]? = some t → Tryd.pinned.checked.prog.wantsStandIn t = false := by
  obtain rfl : f = 4 := Option.some.inj ((show Tryd.prog.funcNamed "tallage/taltop.TopYear" = some 4 by kernel_rfl).symm.trans hf) |>.symm
  obtain rfl : fn = Tryd.f4 := (Option.some.inj (Tryd.func4.symm.trans hfn)).symm
  refine ⟨by kernel_rfl, fun j t ht => ?_⟩
  rw [Tryd.params4] at ht
  have hm : t = 40 ∨ t = 22 ∨ t = 3 ∨ t = 9 := by have := Array.mem_of_getElem? ht; simp at this; omega
  rcases hm with rfl | rfl | rfl | rfl
  · exact (show Tryd.prog.wantsStandIn 40 = false by kernel_rfl)
  · exact (show Tryd.prog.wantsStandIn 22 = false by kernel_rfl)
  · exact (show Tryd.prog.wantsStandIn 3 = false by kernel_rfl)
  · exact (show Tryd.prog.wantsStandIn 9 = false by kernel_rfl)

/-- THE CARD -/
theorem card : Rows.TopYearCardSaid :=
  Claim7.holds_tied_plain_at .later [] _ _ _ _ said (fun _ h => by cases h) (by kernel_rfl) (fun _ h => by cases h) topYear_row_tie rfl ⟨rfl, rfl⟩ (by kernel_rfl) rfl plain (by kernel_rfl)
#print axioms card
end Go.Proofs.YtdmkmbaaemhhhaaDoor.topYear
