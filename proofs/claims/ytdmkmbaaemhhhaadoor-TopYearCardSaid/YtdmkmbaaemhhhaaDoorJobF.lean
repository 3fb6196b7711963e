/-
  Plans, run by the machine: all of them may be.
-/
import Derived.Test.YtdmkmbaaemhhhaaDoorJobE
import Derived.Test.YtdmkmbaaemhhhaaDoorEnG
namespace Go.Proofs.YtdmkmbaaemhhhaaDoor
open Go Go.Ev Go.RowKit Go.Job Go.Acc
set_option maxHeartbeats 4000000
set_option linter.unusedSimpArgs false
set_option linter.unusedVariables false
attribute [local go_sem] mutV getB mvB bkB V.mv V.mvL V.bk V.bkL Blk.mv Blk.bk posN nmN backN noDup app_writes setHL_nil setHL_cons postM_ret postM_normal resM hasB_nil hasB_cons St.mut names_nil names_cons sortV cellOf mkX_M mkX_S mkX_ln lnL_at ms0_mt ms0_st V.lone V.loneL List.zip_cons_cons List.zip_nil_left Option.isNone_none bornV subE partR unB bytesW boundsV ownP sliceW copyV clearV lenM takeV tk1 mapsV mkMapV hintOk lookV updV mapKE keyOk V.key app_lend callW_fn lendV postL_ret postL_normal postT_ret postT_normal takeR St.lent mkX_L bin_eql_vz bin_eql_zv bin_eql_rz bin_eql_zr bin_eql_zz bin_neq_vz bin_neq_zv bin_neq_rz bin_neq_zr bin_neq_zz eqH nilEq nonE plainI gOf_bool gOf_skip g_some g_none Int.ofNat_zero Int.cast_ofNat_Int Bool.false_and Bool.and_false sliceV noBox elemsZ V.scrub V.scrubL Blk.scrub appendV isSlice maxLen_eq leT List.contains_nil List.contains_cons nvL_at fzL_at fillV V.plain V.plainL Blk.plain List.size_toArray mapO_nil mapO_cons Option.isNone_some beqT beqF oI_not mkX_e phi_nil phi_cons bin_eql_bool bin_neq_bool bin_eql_agg bin_neq_agg eqV eqFs eqK_int eqK_bool' eqK_str mkX_T mkX_Φ mkX_n mkX_f mkX_d mkX_r nv0_at fz0_at evQ_dr evP_W evW_nil evW_cons evW_guard okW_eq tame_none tame_new tame_write wb_none wb_new wb_write okU_some offW_none offW_some touchOf V.noRef V.noRefL Option.isSome_some Option.isSome_none mild_none mild_new Option.getD_some Option.getD_none evQ_seq evQ_region evQ_block evQ_cond evQ_ret evQ_skip evQ_exit evO_cons evO_nil evO_guard freezeL_nil oS_some oS_none oS_ite oS_ite' oB_bool oI_true oI_false oE_normal oE_exit oE_ret bQ_normal bQ_ret bQ_exit lQ_normal lQ_ret lQ_exit List.zipIdx_cons List.zipIdx_nil List.map_cons List.map_nil evalOp opd_const opd_tmp opd_func ofC_int ofC_bool ofC_str ofC_nil app_none app_new app_write app_change putE_some putE_none setA_cons setA_nil setH_cons setH_nil mapA_cons mapA_nil look_cons look_nil e_mk h_mk drop_nil drop_mk keep_mk dstOk_some dstOk_none guardT_eq true_and and_true Bool.not_false Bool.not_true selB_true selB_false mem_nil mem_cons kpL_nil kpL_cons drL_nil drL_cons closed_mk V.refsIn V.refsInL Blk.refsIn List.all_cons List.all_nil lenV bin_add bin_sub bin_mul bin_quo bin_rem bin_eql bin_neq bin_lss bin_leq bin_gtr bin_geq un_neg un_not post_ret post_normal St.init Bool.false_eq_true List.length_map Bool.or_false Bool.or_true Bool.false_or Bool.true_or beq_self_eq_true Option.map_some Option.map_none Option.bind_some List.getElem?_cons_zero List.getElem?_cons_succ scalar stor isAggV V.cells List.cons_append List.nil_append if_true if_false wrap_of callV V.dataL V.data Bool.and_true Bool.true_and fresh names V.ren V.renL retV resV packL packV packC getBlks wrapR subV putV decide_true decide_false TK.agg List.length_cons List.length_nil List.take_succ_cons List.take_zero List.drop_succ_cons List.drop_zero List.take_nil List.drop_nil Nat.zero_add Nat.add_zero List.append_nil List.getElem?_nil elemsV ro ro0 ro1 roC ty1 ty2 ty3 ty4 ty5 ty6 ty7 ty8 ty9 ty10 ty11 ty12 ty13 ty14 ty15 ty16 ty17 ty18 ty19 ty21 ty22 ty23 ty24 ty26 ty27 ty28 ty29 ty30 ty31 ty32 ty33 ty34 ty35 ty36 ty37 ty38 ty39 ty40 ty41 ty42 ty44 ty45 ty47 ty49 ty51 ty53 ty54 ty55 ty56 ty57 ty58 ty59 ty60 ty61 ty62 ty63 ty64 ty65 ty66 ty67 ty68 ty69 ty70 ty71 ty72 ty73 ty74 ty75 ty76 ty77 ty78 ty79 ty80 ty81 ty82 ty83 ty84 ty85 ty86 ty87 ty88 ty89 ty90 ty92 ty93 ty94 ty95 ty96 ty97 ty98 ty99 ty100 ty101 ty102 ty103 ty104 ty105 ty107 ty108 ty109 ty110 ty111 ty112 ty113 ty114 ty115 ty116 ty117 ty118 ty119 ty123 ty124 ty125 ty126 ty127 ty128 ty129 ty130 ty131 ty132 ty133 ty135 ty136 ty137 ty138 ty139 ty141 ty142 ty143 ty144 ty146 ty147 ty148 ty149 ty153 ty154 ty155 ty156 ty157 ty158 ty159 ty160 ty161 eqs29 eqs61 eqs79 eqs94
theorem indexP_sound {J : World → Prop} (hJ : Stable J) (g : FuncId) (cs : List V) (G : List V → Option (V × List Ev.Blk)) (hG : Snd Tryd.prog J g G) (hd : V.dataL cs = true) (p : Pl → Bool) (l : List Pl) (hp : ∀ n ∈ l, G (plV n :: cs) = some (.bool (p n), [])) :
    SoundAt Tryd.prog J 67 [.row 7 (l.map plV), .fn g cs] (.int .i64 (if l.any p = true then ((l.findIdx p : Nat) : Int) else -1)) [] := by
  refine SoundAt.row 0 rfl (callOk Tryd.func67 rfl rfl) fun hlen => ?_
  simp only [maxLen, List.length_map] at hlen
  refine evFn (l := [(g, G)]) (nv := nv0) (fz := fz0) (dr := dr67) (dd := dd67) (lam := []) (ms := ms0) ⟨hG, trivial⟩ hJ trivial ms0_ok Tryd.func67 rfl rfl (Nat.le_of_ble_eq_true rfl) (Nat.le_of_ble_eq_true rfl) drOk67 ?_
  dsimp only [Tryd.f67, dr67, dd67, Option.getD_some]
  refine ev_start ?_
  simp (disch := omega) only [go_sem, Int.reduceEq, Int.reduceLT, Int.reduceLE, Int.reduceNeg, Nat.reduceAdd, Nat.reduceLT, Nat.reduceEqDiff, Nat.reduceMul, Nat.reduceLeDiff, reduceIte, Nat.reduceBEq, reduceCtorEq, evP_D, evD_guard, evD_cons, evD_zero, evD_nil]
  refine evQ_loop [0, 1, 7, 8] [] (fun σ => ∃ k : Nat, (k ≤ l.length ∧ ∀ i (h : i < l.length), i < k → p l[i] = false) ∧ σ = ⟨[(0, .row 7 (l.map plV)), (1, .fn g cs), (7, .int .i64 l.length), (8, .int .i64 k)], []⟩) (fun σ => l.length - (match Ev.look 8 σ.env with | some (.int _ n) => n.toNat | _ => 0)) ?_ ?_
  · simp only [go_sem, Int.reduceEq, Int.reduceLT, Int.reduceLE, Int.reduceNeg, Nat.reduceAdd, Nat.reduceLT, Nat.reduceEqDiff, Nat.reduceMul, Nat.reduceLeDiff, reduceIte, Nat.reduceBEq, reduceCtorEq, evP_D, evD_guard, evD_cons, evD_zero, evD_nil]
    exact ⟨refsInL_data hd, 0, ⟨Nat.zero_le _, fun _ _ h => by omega⟩, rfl⟩
  · rintro σ ⟨k, ⟨hk, hall⟩, rfl⟩
    by_cases hlt : k < l.length
    · have hlt' : (k : Int) < l.length := by omega
      have hg := plV_get (List.getElem?_eq_getElem hlt)
      have hpk := hp l[k] (List.getElem_mem hlt)
      unfold plV at hpk
      cases hb : p l[k] with
      | true =>
        rw [hb] at hpk
        have hany : l.any p = true := List.any_eq_true.2 ⟨l[k], List.getElem_mem hlt, hb⟩
        have hidx : l.findIdx p = k := (List.findIdx_eq hlt).2 ⟨hb, fun j hj => hall j (by omega) hj⟩
        simp (disch := (first | omega | assumption)) only [hlt', idx_nat, List.length_map, hg, hpk, hd, V.dataL, V.data, hany, hidx, go_sem, Int.reduceEq, Int.reduceLT, Int.reduceLE, Int.reduceNeg, Nat.reduceAdd, Nat.reduceLT, Nat.reduceEqDiff, Nat.reduceMul, Nat.reduceLeDiff, reduceIte, Nat.reduceBEq, reduceCtorEq, evP_D, evD_guard, evD_cons, evD_zero, evD_nil]
      | false =>
        rw [hb] at hpk
        simp (disch := (first | omega | assumption)) only [hlt', idx_nat, List.length_map, hg, hpk, hd, refsInL_data hd, scrubL_data hd, V.dataL, V.data, go_sem, Int.reduceEq, Int.reduceLT, Int.reduceLE, Int.reduceNeg, Nat.reduceAdd, Nat.reduceLT, Nat.reduceEqDiff, Nat.reduceMul, Nat.reduceLeDiff, reduceIte, Nat.reduceBEq, reduceCtorEq, evP_D, evD_guard, evD_cons, evD_zero, evD_nil]
        exact ⟨⟨k + 1, ⟨hlt, fun i hi hik => by
          by_cases e : i = k
          · subst e; exact hb
          · exact hall i hi (by omega)⟩, rfl⟩, by show l.length - ((k : Int) + 1).toNat < l.length - (k : Int).toNat; omega⟩
    · have hk' : k = l.length := by omega
      subst hk'
      have hlt' : ¬ ((l.length : Int) < l.length) := by omega
      have hany : l.any p = false := by
        rw [List.any_eq_false]
        intro x hx
        obtain ⟨i, hi, rfl⟩ := List.mem_iff_getElem.1 hx
        simp [hall i hi hi]
      simp (disch := (first | omega | assumption)) only [hlt', hany, go_sem, Int.reduceEq, Int.reduceLT, Int.reduceLE, Int.reduceNeg, Nat.reduceAdd, Nat.reduceLT, Nat.reduceEqDiff, Nat.reduceMul, Nat.reduceLeDiff, reduceIte, Nat.reduceBEq, reduceCtorEq, evP_D, evD_guard, evD_cons, evD_zero, evD_nil]
theorem containsP_sound {J : World → Prop} (hJ : Stable J) (g : FuncId) (cs : List V) (G : List V → Option (V × List Ev.Blk)) (hG : Snd Tryd.prog J g G) (hd : V.dataL cs = true) (p : Pl → Bool) (l : List Pl) (hp : ∀ n ∈ l, G (plV n :: cs) = some (.bool (p n), [])) :
    SoundAt Tryd.prog J 31 [.row 7 (l.map plV), .fn g cs] (.bool (l.any p)) [] := by
  have hS := indexP_sound hJ g cs G hG hd p l hp
  refine evFn (l := [(67, at1 [.row 7 (l.map plV), .fn g cs] (.int .i64 (if l.any p = true then ((l.findIdx p : Nat) : Int) else -1), []))]) (nv := nv0) (fz := fz0) (dr := dr31) (dd := dd31) (lam := []) (ms := ms0) ⟨at1_snd hS, trivial⟩ hJ trivial ms0_ok Tryd.func31 rfl rfl (Nat.le_of_ble_eq_true rfl) (Nat.le_of_ble_eq_true rfl) drOk31 ?_
  dsimp only [Tryd.f31, dr31, dd31, Option.getD_some]
  refine ev_start ?_
  cases hb : l.any p with
  | true =>
    have h1 : (0 : Int) ≤ ((l.findIdx p : Nat) : Int) := by omega
    simp (disch := omega) only [at1_eq, h1, hd, hb, V.dataL, V.data, go_sem, Int.reduceEq, Int.reduceLT, Int.reduceLE, Int.reduceNeg, Nat.reduceAdd, Nat.reduceLT, Nat.reduceEqDiff, Nat.reduceMul, Nat.reduceLeDiff, reduceIte, Nat.reduceBEq, reduceCtorEq, evP_D, evD_guard, evD_cons, evD_zero, evD_nil]
  | false =>
    have h2 : ¬ (0 ≤ (-1 : Int)) := by omega
    simp (disch := omega) only [at1_eq, h2, hd, hb, V.dataL, V.data, go_sem, Int.reduceEq, Int.reduceLT, Int.reduceLE, Int.reduceNeg, Nat.reduceAdd, Nat.reduceLT, Nat.reduceEqDiff, Nat.reduceMul, Nat.reduceLeDiff, reduceIte, Nat.reduceBEq, reduceCtorEq, evP_D, evD_guard, evD_cons, evD_zero, evD_nil]
def jc1F : List V → Option (V × List Ev.Blk)
  | [.agg [.str k, .int .i64 _, .int .i64 _, .int .i64 _, .int .i64 _, .str _, .str _], .rd (.agg [.str k', .int .i64 _, .int .i64 _, .int .i64 _, .int .i64 _, .str _, .str _]) 0] => some (.bool (decide (k = k')), [])
  | _ => none
theorem jc1_snd {J : World → Prop} (hJ : Stable J) : Snd Tryd.prog J 32 jc1F := by
  intro args r bs h
  unfold jc1F at h
  split at h
  · obtain ⟨rfl, rfl⟩ := some_pair h
    refine evFn (l := []) (nv := nv0) (fz := fz0) (dr := dr32) (dd := dd32) (lam := []) (ms := ms0) trivial hJ trivial ms0_ok Tryd.func32 rfl rfl (Nat.le_of_ble_eq_true rfl) (Nat.le_of_ble_eq_true rfl) drOk32 ?_
    dsimp only [Tryd.f32, dr32, dd32, Option.getD_some]
    refine ev_start ?_
    simp (disch := omega) only [bin_eql_str, go_sem, Int.reduceEq, Int.reduceLT, Int.reduceLE, Int.reduceNeg, Nat.reduceAdd, Nat.reduceLT, Nat.reduceEqDiff, Nat.reduceMul, Nat.reduceLeDiff, reduceIte, Nat.reduceBEq, reduceCtorEq, evP_D, evD_guard, evD_cons, evD_zero, evD_nil]
  · cases h
/-- does the key lie among these -/
theorem jconx {J : World → Prop} (hJ : Stable J) : ∃ F : List V → Option (V × List Ev.Blk), (∀ (l : List Pl) (p : Pl), F [.row 7 (l.map plV), .fn 32 [.rd (plV p) 0]] = some (.bool (l.any fun q => decide (q.key = p.key)), [])) ∧ Snd Tryd.prog J 31 F := by
  obtain ⟨F, h1, h2⟩ := famj (P := Tryd.prog) (J := J) (f := 31) (fun q : List Pl × Pl => [V.row 7 (q.1.map plV), .fn 32 [.rd (plV q.2) 0]]) (fun q => (.bool (q.1.any fun x => decide (x.key = q.2.key)), [])) (fun i j h => by
    simp only [List.cons.injEq, V.row.injEq, V.fn.injEq, V.rd.injEq, true_and, and_true] at h
    rw [plV_inj h.1, plV_inj1 h.2]) fun q => containsP_sound hJ 32 [.rd (plV q.2) 0] jc1F (jc1_snd hJ) (by simp [V.dataL, V.data, plV]) (fun x => decide (x.key = q.2.key)) q.1 fun x _ => rfl
  exact ⟨F, fun l p => h1 (l, p), h2⟩
set_option maxHeartbeats 2000000 in
theorem jcheck_sound (l : List Pl) : SoundAt Tryd.prog Tab 7 [.row 7 (l.map plV)] (.int .i64 (plChk keyOk' codeOk l)) [] := by
  refine SoundAt.row 0 rfl (callOk Tryd.func7 rfl rfl) fun hlen => ?_
  simp only [maxLen, List.length_map] at hlen
  have hJ := stableTab
  obtain ⟨OF, hOF, sOF⟩ := onex
  obtain ⟨KF, hKF, sKF⟩ := jconx hJ
  refine evFn (l := [(30, OF), (31, KF)]) (nv := nv0) (fz := fz0) (dr := dr7) (dd := dd7) (lam := []) (ms := ms0) ⟨sOF, sKF, trivial⟩ hJ trivial ms0_ok Tryd.func7 rfl rfl (Nat.le_of_ble_eq_true rfl) (Nat.le_of_ble_eq_true rfl) drOk7 ?_
  dsimp only [Tryd.f7, dr7, dd7, Option.getD_some]
  refine ev_start ?_
  by_cases h3 : 12 < l.length
  · have h3' : (12 : Int) < l.length := by omega
    have e : plChk keyOk' codeOk l = 2 := by unfold plChk; rw [if_pos h3]
    simp (disch := omega) only [h3', e, List.length_map, go_sem, Int.reduceEq, Int.reduceLT, Int.reduceLE, Int.reduceNeg, Nat.reduceAdd, Nat.reduceLT, Nat.reduceEqDiff, Nat.reduceMul, Nat.reduceLeDiff, reduceIte, Nat.reduceBEq, reduceCtorEq, evP_D, evD_guard, evD_cons, evD_zero, evD_nil]
  have h3' : ¬ (12 : Int) < l.length := by omega
  have e : plChk keyOk' codeOk l = plE keyOk' codeOk l l.length := by unfold plChk; rw [if_neg h3]
  rw [e]
  simp (disch := omega) only [h3', List.length_map, go_sem, Int.reduceEq, Int.reduceLT, Int.reduceLE, Int.reduceNeg, Nat.reduceAdd, Nat.reduceLT, Nat.reduceEqDiff, Nat.reduceMul, Nat.reduceLeDiff, reduceIte, Nat.reduceBEq, reduceCtorEq, evP_D, evD_guard, evD_cons, evD_zero, evD_nil]
  refine evQ_loop [0, 9, 10, 11] [] (fun σ => ∃ (k : Nat), (k ≤ l.length ∧ plE keyOk' codeOk l k = 0) ∧ σ = ⟨[(0, .row 7 (l.map plV)), (9, .row 7 (l.map plV)), (10, .int .i64 l.length), (11, .int .i64 k)], []⟩)
    (fun σ => l.length - (match Ev.look 11 σ.env with | some (.int _ n) => n.toNat | _ => 0)) ?_ ?_
  · simp only [go_sem, Int.reduceEq, Int.reduceLT, Int.reduceLE, Int.reduceNeg, Nat.reduceAdd, Nat.reduceLT, Nat.reduceEqDiff, Nat.reduceMul, Nat.reduceLeDiff, reduceIte, Nat.reduceBEq, reduceCtorEq, evP_D, evD_guard, evD_cons, evD_zero, evD_nil]
    exact ⟨0, ⟨Nat.zero_le _, rfl⟩, rfl⟩
  · rintro σ ⟨k, ⟨hk, hpre⟩, rfl⟩
    by_cases hlt : k < l.length
    · have hlt' : (k : Int) < l.length := by omega
      obtain ⟨p, hp⟩ : ∃ p, l[k]? = some p := ⟨_, List.getElem?_eq_getElem hlt⟩
      have hg := plV_get hp
      have hO := hOF p
      have hK := hKF (l.take k) p
      rw [List.map_take] at hK
      unfold plV at hO
      rw [show plV p = .agg [.str p.key, .int .i64 p.kind, .int .i64 p.at_, .int .i64 p.amt, .int .i64 p.num, .str p.deb, .str p.cre] from rfl] at hK
      have hst := plE_step keyOk' codeOk hpre hp
      have hfin := fun (h : plE keyOk' codeOk l (k + 1) ≠ 0) => plE_fin keyOk' codeOk (show k + 1 ≤ l.length by omega) h
      have hms : l.length - ((k : Int) + 1).toNat < l.length - (k : Int).toNat := by
        have e3 : ((k : Int) + 1).toNat = k + 1 := by omega
        rw [e3, Int.toNat_natCast]; omega
      have g0 : (0 : Int) ≤ k := by omega
      have g1 : (k : Int) ≤ l.length := by omega
      by_cases ho : oneE keyOk' codeOk p = 0
      · rw [if_pos ho] at hst
        rw [ho] at hO
        cases hc : (l.take k).any fun q => decide (q.key = p.key) with
        | true =>
          rw [hc, if_pos rfl] at hst
          rw [hc] at hK
          have hR : plE keyOk' codeOk l l.length = 5 := by rw [hfin (by omega), hst]
          simp (disch := (first | omega | assumption)) only [hlt', idx_nat, List.length_map, hg, hO, hK, hR, g0, g1, and_self, Int.toNat_natCast, Nat.sub_zero, List.drop_zero, List.mapM_cons, List.mapM_nil, Option.bind_eq_bind, Option.pure_def, Option.bind_some, go_sem, Int.reduceEq, Int.reduceLT, Int.reduceLE, Int.reduceNeg, Nat.reduceAdd, Nat.reduceLT, Nat.reduceEqDiff, Nat.reduceMul, Nat.reduceLeDiff, reduceIte, Nat.reduceBEq, reduceCtorEq, evP_D, evD_guard, evD_cons, evD_zero, evD_nil]
        | false =>
          rw [hc, if_neg (by simp)] at hst
          rw [hc] at hK
          simp (disch := (first | omega | assumption)) only [hlt', idx_nat, List.length_map, hg, hO, hK, g0, g1, and_self, Int.toNat_natCast, Nat.sub_zero, List.drop_zero, List.mapM_cons, List.mapM_nil, Option.bind_eq_bind, Option.pure_def, Option.bind_some, go_sem, Int.reduceEq, Int.reduceLT, Int.reduceLE, Int.reduceNeg, Nat.reduceAdd, Nat.reduceLT, Nat.reduceEqDiff, Nat.reduceMul, Nat.reduceLeDiff, reduceIte, Nat.reduceBEq, reduceCtorEq, evP_D, evD_guard, evD_cons, evD_zero, evD_nil]
          exact ⟨⟨k + 1, ⟨hlt, hst⟩, rfl⟩, hms⟩
      · rw [if_neg ho] at hst
        have hR : plE keyOk' codeOk l l.length = oneE keyOk' codeOk p := by rw [hfin (by rw [hst]; exact ho), hst]
        rw [hR]
        simp (disch := (first | omega | assumption)) only [hlt', idx_nat, List.length_map, hg, hO, ho, go_sem, Int.reduceEq, Int.reduceLT, Int.reduceLE, Int.reduceNeg, Nat.reduceAdd, Nat.reduceLT, Nat.reduceEqDiff, Nat.reduceMul, Nat.reduceLeDiff, reduceIte, Nat.reduceBEq, reduceCtorEq, evP_D, evD_guard, evD_cons, evD_zero, evD_nil]
    · have hk' : k = l.length := by omega
      subst hk'
      have hlt' : ¬ ((l.length : Int) < l.length) := by omega
      simp (disch := (first | omega | assumption)) only [hlt', hpre, go_sem, Int.reduceEq, Int.reduceLT, Int.reduceLE, Int.reduceNeg, Nat.reduceAdd, Nat.reduceLT, Nat.reduceEqDiff, Nat.reduceMul, Nat.reduceLeDiff, reduceIte, Nat.reduceBEq, reduceCtorEq, evP_D, evD_guard, evD_cons, evD_zero, evD_nil]
end Go.Proofs.YtdmkmbaaemhhhaaDoor
