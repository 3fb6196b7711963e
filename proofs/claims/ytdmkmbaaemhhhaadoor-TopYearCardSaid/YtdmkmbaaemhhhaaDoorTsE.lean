/-
  Trial, profit and sheet, run by the machine: the program.
-/
import Derived.Test.YtdmkmbaaemhhhaaDoorBkI
import Derived.Test.YtdmkmbaaemhhhaaDoorTsP
namespace Go.Proofs.YtdmkmbaaemhhhaaDoor
open Go Go.Ev Go.RowKit Go.Acc
set_option maxHeartbeats 4000000
set_option linter.unusedSimpArgs false
set_option linter.unusedVariables false
attribute [local go_sem] mutV getB mvB bkB V.mv V.mvL V.bk V.bkL Blk.mv Blk.bk posN nmN backN noDup app_writes setHL_nil setHL_cons postM_ret postM_normal resM hasB_nil hasB_cons St.mut names_nil names_cons sortV cellOf mkX_M mkX_S mkX_ln lnL_at ms0_mt ms0_st V.lone V.loneL List.zip_cons_cons List.zip_nil_left Option.isNone_none bornV subE partR unB bytesW boundsV ownP sliceW copyV clearV lenM takeV tk1 mapsV mkMapV hintOk lookV updV mapKE keyOk V.key app_lend callW_fn lendV postL_ret postL_normal postT_ret postT_normal takeR St.lent mkX_L bin_eql_vz bin_eql_zv bin_eql_rz bin_eql_zr bin_eql_zz bin_neq_vz bin_neq_zv bin_neq_rz bin_neq_zr bin_neq_zz eqH nilEq nonE plainI gOf_bool gOf_skip g_some g_none Int.ofNat_zero Int.cast_ofNat_Int Bool.false_and Bool.and_false sliceV noBox elemsZ V.scrub V.scrubL Blk.scrub appendV isSlice maxLen_eq leT List.contains_nil List.contains_cons nvL_at fzL_at fillV V.plain V.plainL Blk.plain List.size_toArray mapO_nil mapO_cons Option.isNone_some beqT beqF oI_not mkX_e phi_nil phi_cons bin_eql_bool bin_neq_bool bin_eql_agg bin_neq_agg eqV eqFs eqK_int eqK_bool' eqK_str mkX_T mkX_Φ mkX_n mkX_f mkX_d mkX_r nv0_at fz0_at evQ_dr evP_W evW_nil evW_cons evW_guard okW_eq tame_none tame_new tame_write wb_none wb_new wb_write okU_some offW_none offW_some touchOf V.noRef V.noRefL Option.isSome_some Option.isSome_none mild_none mild_new Option.getD_some Option.getD_none evQ_seq evQ_region evQ_block evQ_cond evQ_ret evQ_skip evQ_exit evO_cons evO_nil evO_guard freezeL_nil oS_some oS_none oS_ite oS_ite' oB_bool oI_true oI_false oE_normal oE_exit oE_ret bQ_normal bQ_ret bQ_exit lQ_normal lQ_ret lQ_exit List.zipIdx_cons List.zipIdx_nil List.map_cons List.map_nil evalOp opd_const opd_tmp opd_func ofC_int ofC_bool ofC_str ofC_nil app_none app_new app_write app_change putE_some putE_none setA_cons setA_nil setH_cons setH_nil mapA_cons mapA_nil look_cons look_nil e_mk h_mk drop_nil drop_mk keep_mk dstOk_some dstOk_none guardT_eq true_and and_true Bool.not_false Bool.not_true selB_true selB_false mem_nil mem_cons kpL_nil kpL_cons drL_nil drL_cons closed_mk V.refsIn V.refsInL Blk.refsIn List.all_cons List.all_nil lenV bin_add bin_sub bin_mul bin_quo bin_rem bin_eql bin_neq bin_lss bin_leq bin_gtr bin_geq un_neg un_not post_ret post_normal St.init Bool.false_eq_true List.length_map Bool.or_false Bool.or_true Bool.false_or Bool.true_or beq_self_eq_true Option.map_some Option.map_none Option.bind_some List.getElem?_cons_zero List.getElem?_cons_succ scalar stor isAggV V.cells List.cons_append List.nil_append if_true if_false wrap_of callV V.dataL V.data Bool.and_true Bool.true_and fresh names V.ren V.renL retV resV packL packV packC getBlks wrapR subV putV decide_true decide_false TK.agg List.length_cons List.length_nil List.take_succ_cons List.take_zero List.drop_succ_cons List.drop_zero List.take_nil List.drop_nil Nat.zero_add Nat.add_zero List.append_nil List.getElem?_nil elemsV ro ro0 ro1 roC ty1 ty2 ty3 ty4 ty5 ty6 ty7 ty8 ty9 ty10 ty11 ty12 ty13 ty14 ty15 ty16 ty17 ty18 ty19 ty21 ty22 ty23 ty24 ty26 ty27 ty28 ty29 ty30 ty31 ty32 ty33 ty34 ty35 ty36 ty37 ty38 ty39 ty40 ty41 ty42 ty44 ty45 ty47 ty49 ty51 ty53 ty54 ty55 ty56 ty57 ty58 ty59 ty60 ty61 ty62 ty63 ty64 ty65 ty66 ty67 ty68 ty69 ty70 ty71 ty72 ty73 ty74 ty75 ty76 ty77 ty78 ty79 ty80 ty81 ty82 ty83 ty84 ty85 ty86 ty87 ty88 ty89 ty90 ty92 ty93 ty94 ty95 ty96 ty97 ty98 ty99 ty100 ty101 ty102 ty103 ty104 ty105 ty107 ty108 ty109 ty110 ty111 ty112 ty113 ty114 ty115 ty116 ty117 ty118 ty119 ty123 ty124 ty125 ty126 ty127 ty128 ty129 ty130 ty131 ty132 ty133 ty135 ty136 ty137 ty138 ty139 ty141 ty142 ty143 ty144 ty146 ty147 ty148 ty149 ty153 ty154 ty155 ty156 ty157 ty158 ty159 ty160 ty161 eqs29 eqs61 eqs79 eqs94
/-- contracts at a family of arguments -/
theorem fam_ex {P : Program} {J : World → Prop} {f : FuncId} {α : Type} (a : α → List V) (r : α → V × List Blk) (hi : ∀ i j, a i = a j → r i = r j) (h : ∀ i, SoundAt P J f (a i) (r i).1 (r i).2) :
    ∃ F : List V → Option (V × List Blk), (∀ i, F (a i) = some (r i)) ∧ Snd P J f F := by
  refine ⟨fun x => open Classical in if h : ∃ i, a i = x then some (r h.choose) else none, fun i => ?_, fun args r' bs h' => ?_⟩
  · have hx : ∃ j, a j = a i := ⟨i, rfl⟩
    simp only [dif_pos hx]
    rw [hi _ _ hx.choose_spec]
  · by_cases hx : ∃ i, a i = args
    · simp only [dif_pos hx] at h'
      have e := Option.some.inj h'
      have := h hx.choose
      rw [e, hx.choose_spec] at this
      exact this
    · simp only [dif_neg hx] at h'
      cases h'
def tlookE (A : List (ByteArray × Int)) (E : List En) (s : Int) (day : Int) : Int := if bkChk A E s ≠ 0 then bkChk A E s else if 0 ≤ day ∧ day ≤ 292193 then 0 else 1
theorem tlook_sound {J : World → Prop} (hJ : Stable J) (A : List (ByteArray × Int)) (E : List En) (s : Int) (day : Int) (hE : E.length ≤ maxLen) : SoundAt Tryd.prog J 46 [bkV A E s, .int .i64 day] (.int .i64 (tlookE A E s day)) [] := by
  have hB := bcheck_sound hJ A E s hE
  unfold bkV at hB ⊢
  refine evFn (l := [(20, at1 _ (.int .i64 (bkChk A E s), [])), (21, dayF)]) (nv := nv0) (fz := fz0) (dr := dr46) (dd := dd46) (lam := []) (ms := ms0) ⟨at1_snd hB, is_snd hJ, trivial⟩ hJ trivial ms0_ok Tryd.func46 rfl rfl (Nat.le_of_ble_eq_true rfl) (Nat.le_of_ble_eq_true rfl) drOk46 ?_
  dsimp only [Tryd.f46, dr46, dd46, Option.getD_some]
  refine ev_start ?_
  by_cases hz : bkChk A E s = 0
  · by_cases hd : 0 ≤ day ∧ day ≤ 292193
    · have e1 : tlookE A E s day = 0 := by unfold tlookE; rw [if_neg (fun h => h hz), if_pos hd]
      have hd' := decide_eq_true hd
      simp (disch := omega) only [at1_eq, dayF_eq, hz, hd', e1, go_sem, Int.reduceEq, Int.reduceLT, Int.reduceLE, Int.reduceNeg, Nat.reduceAdd, Nat.reduceLT, Nat.reduceEqDiff, Nat.reduceMul, Nat.reduceLeDiff, reduceIte, Nat.reduceBEq, reduceCtorEq, evP_D, evD_guard, evD_cons, evD_zero, evD_nil]
    · have e1 : tlookE A E s day = 1 := by unfold tlookE; rw [if_neg (fun h => h hz), if_neg hd]
      have hd' := decide_eq_false hd
      simp (disch := omega) only [at1_eq, dayF_eq, hz, hd', e1, go_sem, Int.reduceEq, Int.reduceLT, Int.reduceLE, Int.reduceNeg, Nat.reduceAdd, Nat.reduceLT, Nat.reduceEqDiff, Nat.reduceMul, Nat.reduceLeDiff, reduceIte, Nat.reduceBEq, reduceCtorEq, evP_D, evD_guard, evD_cons, evD_zero, evD_nil]
  · have e1 : tlookE A E s day = bkChk A E s := by unfold tlookE; rw [if_pos hz]
    simp (disch := omega) only [at1_eq, hz, e1, go_sem, Int.reduceEq, Int.reduceLT, Int.reduceLE, Int.reduceNeg, Nat.reduceAdd, Nat.reduceLT, Nat.reduceEqDiff, Nat.reduceMul, Nat.reduceLeDiff, reduceIte, Nat.reduceBEq, reduceCtorEq, evP_D, evD_guard, evD_cons, evD_zero, evD_nil]
theorem of_ex {J : World → Prop} (hJ : Stable J) (A : List (ByteArray × Int)) (E : List En) (s : Int) (f t : Int) (hE : ∀ x ∈ E, enX x = 0) (hl : E.length ≤ 60) :
    ∃ F : List V → Option (V × List Blk), (∀ c : ByteArray, F [.agg [.row 2 (A.map acV), .row 3 (E.map enW), .int .i64 s], .str c, .int .i64 f, .int .i64 t] = some (.int .i64 (ofB c f t E), [])) ∧ Snd Tryd.prog J 42 F :=
  fam_ex (fun c : ByteArray => [bkV A E s, .str c, .int .i64 f, .int .i64 t]) (fun c => (.int .i64 (ofB c f t E), [])) (fun i j h => by
    simp only [List.cons.injEq, V.str.injEq, true_and, and_true] at h
    rw [h]) fun c => of_sound hJ A E s c f t hE hl
set_option maxHeartbeats 4000000 in
theorem trial_sound {J : World → Prop} (hJ : Stable J) (A : List (ByteArray × Int)) (E : List En) (s : Int) (day : Int) (hE : E.length ≤ maxLen) :
    SoundAt Tryd.prog J 17 [bkV A E s, .int .i64 day] (.tup [.int .i64 (if tlookE A E s day = 0 then trD E day A else 0), .int .i64 (if tlookE A E s day = 0 then trC E day A else 0), .int .i64 (tlookE A E s day)]) [] := by
  have hL := tlook_sound hJ A E s day hE
  unfold bkV at hL ⊢
  by_cases hz : tlookE A E s day = 0
  case neg =>
    refine evFn (l := [(46, at1 _ (.int .i64 (tlookE A E s day), []))]) (nv := nv0) (fz := fz0) (dr := dr17) (dd := dd17) (lam := []) (ms := ms0) ⟨at1_snd hL, trivial⟩ hJ trivial ms0_ok Tryd.func17 rfl rfl (Nat.le_of_ble_eq_true rfl) (Nat.le_of_ble_eq_true rfl) drOk17 ?_
    dsimp only [Tryd.f17, dr17, dd17, Option.getD_some]
    refine ev_start ?_
    simp (disch := omega) only [at1_eq, hz, if_false, go_sem, Int.reduceEq, Int.reduceLT, Int.reduceLE, Int.reduceNeg, Nat.reduceAdd, Nat.reduceLT, Nat.reduceEqDiff, Nat.reduceMul, Nat.reduceLeDiff, reduceIte, Nat.reduceBEq, reduceCtorEq, evP_D, evD_guard, evD_cons, evD_zero, evD_nil]
  have hc : bkChk A E s = 0 := by
    unfold tlookE at hz
    by_cases h : bkChk A E s = 0
    · exact h
    · rw [if_pos h] at hz; exact hz
  obtain ⟨h1, _, h3, h4⟩ := bkChk_ok hc
  have hEn : ∀ x ∈ E, enX x = 0 := fun x hx => (h4 x hx).1
  have hA24 := (acChk_codes h1).1
  obtain ⟨OF, hOF, hOFs⟩ := of_ex hJ A E s 0 day hEn h3
  refine evFn (l := [(46, at1 _ (.int .i64 (tlookE A E s day), [])), (42, OF)]) (nv := nv0) (fz := fz0) (dr := dr17) (dd := dd17) (lam := []) (ms := ms0) ⟨at1_snd hL, hOFs, trivial⟩ hJ trivial ms0_ok Tryd.func17 rfl rfl (Nat.le_of_ble_eq_true rfl) (Nat.le_of_ble_eq_true rfl) drOk17 ?_
  dsimp only [Tryd.f17, dr17, dd17, Option.getD_some]
  refine ev_start ?_
  rw [if_pos hz, if_pos hz]
  simp (disch := omega) only [at1_eq, hz, List.length_map, go_sem, Int.reduceEq, Int.reduceLT, Int.reduceLE, Int.reduceNeg, Nat.reduceAdd, Nat.reduceLT, Nat.reduceEqDiff, Nat.reduceMul, Nat.reduceLeDiff, reduceIte, Nat.reduceBEq, reduceCtorEq, evP_D, evD_guard, evD_cons, evD_zero, evD_nil]
  refine evQ_loop [1, 2, 8, 9, 20, 21, 22] [16] (fun σ => ∃ (k : Nat), k ≤ A.length ∧ σ = ⟨[(1, .int .i64 day), (2, .ptr 16 0), (8, .int .i64 (trD E day (A.take k))), (9, .int .i64 (trC E day (A.take k))), (20, .row 2 (A.map acV)), (21, .int .i64 A.length), (22, .int .i64 k)], [(16, .box (.agg [.row 2 (A.map acV), .row 3 (E.map enW), .int .i64 s]))]⟩)
    (fun σ => A.length - (match Ev.look 22 σ.env with | some (.int _ n) => n.toNat | _ => 0)) ?_ ?_
  · simp only [go_sem, Int.reduceEq, Int.reduceLT, Int.reduceLE, Int.reduceNeg, Nat.reduceAdd, Nat.reduceLT, Nat.reduceEqDiff, Nat.reduceMul, Nat.reduceLeDiff, reduceIte, Nat.reduceBEq, reduceCtorEq, evP_D, evD_guard, evD_cons, evD_zero, evD_nil]
    exact ⟨0, Nat.zero_le _, rfl⟩
  · rintro σ ⟨k, hkl, rfl⟩
    by_cases hlt : k < A.length
    · have hlt' : (k : Int) < A.length := by omega
      obtain ⟨⟨c, kd⟩, hcn⟩ : ∃ p, A[k]? = some p := ⟨_, List.getElem?_eq_getElem hlt⟩
      have hg := acV_get hcn
      have hD : trD E day (A.take (k + 1)) = trD E day (A.take k) + pos (ofB c 0 day E) := sum_take (fun a : ByteArray × Int => pos (ofB a.1 0 day E)) hcn
      have hC : trC E day (A.take (k + 1)) = trC E day (A.take k) + neg (ofB c 0 day E) := sum_take (fun a : ByteArray × Int => neg (ofB a.1 0 day E)) hcn
      have bD := trD_bd hEn h3 day hA24 k
      have bC := trC_bd hEn h3 day hA24 k
      have bO := ofB_bd c 0 day hEn h3
      have hms : A.length - ((k : Int) + 1).toNat < A.length - (k : Int).toNat := by
        have e3 : ((k : Int) + 1).toNat = k + 1 := by omega
        rw [e3, Int.toNat_natCast]; exact Nat.sub_lt_sub_left hlt (Nat.lt_succ_self k)
      by_cases hp : 0 < ofB c 0 day E
      · have e1 : pos (ofB c 0 day E) = ofB c 0 day E := if_pos hp
        have e2 : neg (ofB c 0 day E) = 0 := if_pos hp
        rw [e1] at hD
        rw [e2, Int.add_zero] at hC
        simp (disch := (first | omega | assumption)) only [hlt', idx_nat, List.length_map, hg, hOF, hp, go_sem, Int.reduceEq, Int.reduceLT, Int.reduceLE, Int.reduceNeg, Nat.reduceAdd, Nat.reduceLT, Nat.reduceEqDiff, Nat.reduceMul, Nat.reduceLeDiff, reduceIte, Nat.reduceBEq, reduceCtorEq, evP_D, evD_guard, evD_cons, evD_zero, evD_nil]
        exact ⟨⟨k + 1, hlt, by rw [hD, hC]; rfl⟩, hms⟩
      · have e1 : pos (ofB c 0 day E) = 0 := if_neg hp
        have e2 : neg (ofB c 0 day E) = - ofB c 0 day E := if_neg hp
        rw [e1, Int.add_zero] at hD
        rw [e2] at hC
        simp (disch := (first | omega | assumption)) only [hlt', idx_nat, List.length_map, hg, hOF, hp, go_sem, Int.reduceEq, Int.reduceLT, Int.reduceLE, Int.reduceNeg, Nat.reduceAdd, Nat.reduceLT, Nat.reduceEqDiff, Nat.reduceMul, Nat.reduceLeDiff, reduceIte, Nat.reduceBEq, reduceCtorEq, evP_D, evD_guard, evD_cons, evD_zero, evD_nil]
        exact ⟨⟨k + 1, hlt, by rw [hD, hC, ← Int.sub_eq_add_neg]; rfl⟩, hms⟩
    · have hk' : k = A.length := by omega
      subst hk'
      have hlt' : ¬ ((A.length : Int) < A.length) := by omega
      simp (disch := (first | omega | assumption)) only [hlt', hz, List.take_length, go_sem, Int.reduceEq, Int.reduceLT, Int.reduceLE, Int.reduceNeg, Nat.reduceAdd, Nat.reduceLT, Nat.reduceEqDiff, Nat.reduceMul, Nat.reduceLeDiff, reduceIte, Nat.reduceBEq, reduceCtorEq, evP_D, evD_guard, evD_cons, evD_zero, evD_nil]
end Go.Proofs.YtdmkmbaaemhhhaaDoor
