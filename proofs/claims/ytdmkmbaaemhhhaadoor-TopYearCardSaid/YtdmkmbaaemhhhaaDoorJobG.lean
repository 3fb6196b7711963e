/-
  Plans, run by the machine: all of them may be, as the document says it.
-/
import Derived.Test.YtdmkmbaaemhhhaaDoorJobF
namespace Go.Proofs.YtdmkmbaaemhhhaaDoor
open Go Go.Ev Go.RowKit Go.Job Go.Acc
set_option maxHeartbeats 4000000
set_option linter.unusedSimpArgs false
set_option linter.unusedVariables false
attribute [local go_sem] mutV getB mvB bkB V.mv V.mvL V.bk V.bkL Blk.mv Blk.bk posN nmN backN noDup app_writes setHL_nil setHL_cons postM_ret postM_normal resM hasB_nil hasB_cons St.mut names_nil names_cons sortV cellOf mkX_M mkX_S mkX_ln lnL_at ms0_mt ms0_st V.lone V.loneL List.zip_cons_cons List.zip_nil_left Option.isNone_none bornV subE partR unB bytesW boundsV ownP sliceW copyV clearV lenM takeV tk1 mapsV mkMapV hintOk lookV updV mapKE keyOk V.key app_lend callW_fn lendV postL_ret postL_normal postT_ret postT_normal takeR St.lent mkX_L bin_eql_vz bin_eql_zv bin_eql_rz bin_eql_zr bin_eql_zz bin_neq_vz bin_neq_zv bin_neq_rz bin_neq_zr bin_neq_zz eqH nilEq nonE plainI gOf_bool gOf_skip g_some g_none Int.ofNat_zero Int.cast_ofNat_Int Bool.false_and Bool.and_false sliceV noBox elemsZ V.scrub V.scrubL Blk.scrub appendV isSlice maxLen_eq leT List.contains_nil List.contains_cons nvL_at fzL_at fillV V.plain V.plainL Blk.plain List.size_toArray mapO_nil mapO_cons Option.isNone_some beqT beqF oI_not mkX_e phi_nil phi_cons bin_eql_bool bin_neq_bool bin_eql_agg bin_neq_agg eqV eqFs eqK_int eqK_bool' eqK_str mkX_T mkX_Φ mkX_n mkX_f mkX_d mkX_r nv0_at fz0_at evQ_dr evP_W evW_nil evW_cons evW_guard okW_eq tame_none tame_new tame_write wb_none wb_new wb_write okU_some offW_none offW_some touchOf V.noRef V.noRefL Option.isSome_some Option.isSome_none mild_none mild_new Option.getD_some Option.getD_none evQ_seq evQ_region evQ_block evQ_cond evQ_ret evQ_skip evQ_exit evO_cons evO_nil evO_guard freezeL_nil oS_some oS_none oS_ite oS_ite' oB_bool oI_true oI_false oE_normal oE_exit oE_ret bQ_normal bQ_ret bQ_exit lQ_normal lQ_ret lQ_exit List.zipIdx_cons List.zipIdx_nil List.map_cons List.map_nil evalOp opd_const opd_tmp opd_func ofC_int ofC_bool ofC_str ofC_nil app_none app_new app_write app_change putE_some putE_none setA_cons setA_nil setH_cons setH_nil mapA_cons mapA_nil look_cons look_nil e_mk h_mk drop_nil drop_mk keep_mk dstOk_some dstOk_none guardT_eq true_and and_true Bool.not_false Bool.not_true selB_true selB_false mem_nil mem_cons kpL_nil kpL_cons drL_nil drL_cons closed_mk V.refsIn V.refsInL Blk.refsIn List.all_cons List.all_nil lenV bin_add bin_sub bin_mul bin_quo bin_rem bin_eql bin_neq bin_lss bin_leq bin_gtr bin_geq un_neg un_not post_ret post_normal St.init Bool.false_eq_true List.length_map Bool.or_false Bool.or_true Bool.false_or Bool.true_or beq_self_eq_true Option.map_some Option.map_none Option.bind_some List.getElem?_cons_zero List.getElem?_cons_succ scalar stor isAggV V.cells List.cons_append List.nil_append if_true if_false wrap_of callV V.dataL V.data Bool.and_true Bool.true_and fresh names V.ren V.renL retV resV packL packV packC getBlks wrapR subV putV decide_true decide_false TK.agg List.length_cons List.length_nil List.take_succ_cons List.take_zero List.drop_succ_cons List.drop_zero List.take_nil List.drop_nil Nat.zero_add Nat.add_zero List.append_nil List.getElem?_nil elemsV ro ro0 ro1 roC ty1 ty2 ty3 ty4 ty5 ty6 ty7 ty8 ty9 ty10 ty11 ty12 ty13 ty14 ty15 ty16 ty17 ty18 ty19 ty21 ty22 ty23 ty24 ty26 ty27 ty28 ty29 ty30 ty31 ty32 ty33 ty34 ty35 ty36 ty37 ty38 ty39 ty40 ty41 ty42 ty44 ty45 ty47 ty49 ty51 ty53 ty54 ty55 ty56 ty57 ty58 ty59 ty60 ty61 ty62 ty63 ty64 ty65 ty66 ty67 ty68 ty69 ty70 ty71 ty72 ty73 ty74 ty75 ty76 ty77 ty78 ty79 ty80 ty81 ty82 ty83 ty84 ty85 ty86 ty87 ty88 ty89 ty90 ty92 ty93 ty94 ty95 ty96 ty97 ty98 ty99 ty100 ty101 ty102 ty103 ty104 ty105 ty107 ty108 ty109 ty110 ty111 ty112 ty113 ty114 ty115 ty116 ty117 ty118 ty119 ty123 ty124 ty125 ty126 ty127 ty128 ty129 ty130 ty131 ty132 ty133 ty135 ty136 ty137 ty138 ty139 ty141 ty142 ty143 ty144 ty146 ty147 ty148 ty149 ty153 ty154 ty155 ty156 ty157 ty158 ty159 ty160 ty161 eqs29 eqs61 eqs79 eqs94
def rkF : List V → Option (V × List Ev.Blk)
  | [.str s] => if s.size ≤ maxLen then some (.bool (keyOk' s), []) else none
  | _ => none
theorem rkF_eq {s : ByteArray} (h : s.size ≤ maxLen) : rkF [.str s] = some (.bool (keyOk' s), []) := if_pos h
theorem rk_snd {J : World → Prop} (hJ : Stable J) : Snd Tryd.prog J 25 rkF := by
  intro args r bs h
  unfold rkF at h
  split at h
  · split at h
    · rename_i s hc
      obtain ⟨rfl, rfl⟩ := some_pair h
      exact rkey_sound hJ s hc
    · cases h
  · cases h
def keysP (l : List Pl) (k : Nat) : List ByteArray := (l.take k).map (·.key)
theorem keysP_succ {l : List Pl} {k : Nat} {p : Pl} (h : l[k]? = some p) : keysP l (k + 1) = keysP l k ++ [p.key] := by
  obtain ⟨hk, rfl⟩ := List.getElem?_eq_some_iff.1 h
  unfold keysP
  rw [List.take_succ_eq_append_getElem hk, List.map_append]
  rfl
theorem keysP_has (l : List Pl) (k : Nat) (c : ByteArray) : hasC c (keysP l k) = (l.take k).any fun q => decide (q.key = c) := by
  unfold hasC keysP
  rw [List.any_map]
  rfl
theorem keysP_len (l : List Pl) {k : Nat} (h : k ≤ l.length) : (keysP l k).length = k := by
  unfold keysP; rw [List.length_map, List.length_take]; omega
set_option maxRecDepth 100000 in
set_option maxHeartbeats 8000000 in
theorem rplans_sound {J : World → Prop} (hJ : Stable J) (l : List Pl) (hks : ∀ p ∈ l, p.key.size ≤ maxLen) : SoundAt Tryd.prog J 6 [.row 7 (l.map plV)] (.int .i64 (plChk keyOk' codeOk l)) [] := by
  refine SoundAt.row 0 rfl (callOk Tryd.func6 rfl rfl) fun hlen => ?_
  simp only [maxLen, List.length_map] at hlen
  refine evFn (l := [(25, rkF), (26, ixdF), (27, withinF), (8, dayF), (28, codeF), (29, rdaF)]) (nv := nv0) (fz := fz0) (dr := dr6) (dd := dd6) (lam := []) (ms := ms0) ⟨rk_snd hJ, ixd_snd, within_snd hJ, day_snd hJ, rcode_snd hJ, rda_snd, trivial⟩ hJ trivial ms0_ok Tryd.func6 rfl rfl (Nat.le_of_ble_eq_true rfl) (Nat.le_of_ble_eq_true rfl) drOk6 ?_
  dsimp only [Tryd.f6, dr6, dd6, Option.getD_some]
  refine ev_start ?_
  by_cases h3 : 12 < l.length
  · have h3' : (12 : Int) < l.length := by omega
    have e : plChk keyOk' codeOk l = 2 := by unfold plChk; rw [if_pos h3]
    simp (disch := omega) only [h3', e, List.length_map, go_sem, Int.reduceEq, Int.reduceLT, Int.reduceLE, Int.reduceNeg, Nat.reduceAdd, Nat.reduceLT, Nat.reduceEqDiff, Nat.reduceMul, Nat.reduceLeDiff, reduceIte, Nat.reduceBEq, reduceCtorEq, evP_D, evD_guard, evD_cons, evD_zero, evD_nil]
  have h3' : ¬ (12 : Int) < l.length := by omega
  have e : plChk keyOk' codeOk l = plE keyOk' codeOk l l.length := by unfold plChk; rw [if_neg h3]
  rw [e]
  simp (disch := omega) only [h3', List.length_map, go_sem, Int.reduceEq, Int.reduceLT, Int.reduceLE, Int.reduceNeg, Nat.reduceAdd, Nat.reduceLT, Nat.reduceEqDiff, Nat.reduceMul, Nat.reduceLeDiff, reduceIte, Nat.reduceBEq, reduceCtorEq, evP_D, evD_guard, evD_cons, evD_zero, evD_nil]
  refine evQ_loop [3, 10, 11, 12] [72] (fun σ => ∃ (k : Nat), (k ≤ l.length ∧ plE keyOk' codeOk l k = 0) ∧ σ = ⟨[(3, .vec 72), (10, .row 7 (l.map plV)), (11, .int .i64 l.length), (12, .int .i64 k)], [(72, .map (setV (keysP l k)))]⟩)
    (fun σ => l.length - (match Ev.look 12 σ.env with | some (.int _ n) => n.toNat | _ => 0)) ?_ ?_
  · simp only [go_sem, Int.reduceEq, Int.reduceLT, Int.reduceLE, Int.reduceNeg, Nat.reduceAdd, Nat.reduceLT, Nat.reduceEqDiff, Nat.reduceMul, Nat.reduceLeDiff, reduceIte, Nat.reduceBEq, reduceCtorEq, evP_D, evD_guard, evD_cons, evD_zero, evD_nil]
    exact ⟨0, ⟨Nat.zero_le _, rfl⟩, rfl⟩
  · rintro σ ⟨k, ⟨hk, hpre⟩, rfl⟩
    by_cases hlt : k < l.length
    case neg =>
      have hk' : k = l.length := by omega
      subst hk'
      have hlt' : ¬ ((l.length : Int) < l.length) := by omega
      simp (disch := (first | omega | assumption)) only [hlt', hpre, go_sem, Int.reduceEq, Int.reduceLT, Int.reduceLE, Int.reduceNeg, Nat.reduceAdd, Nat.reduceLT, Nat.reduceEqDiff, Nat.reduceMul, Nat.reduceLeDiff, reduceIte, Nat.reduceBEq, reduceCtorEq, evP_D, evD_guard, evD_cons, evD_zero, evD_nil]
    have hlt' : (k : Int) < l.length := by omega
    obtain ⟨p, hp⟩ : ∃ p, l[k]? = some p := ⟨_, List.getElem?_eq_getElem hlt⟩
    have hg := plV_get hp
    have hsz := hks p (List.mem_of_getElem? hp)
    have hst := plE_step keyOk' codeOk hpre hp
    have hfin := fun (h : plE keyOk' codeOk l (k + 1) ≠ 0) => plE_fin keyOk' codeOk (show k + 1 ≤ l.length by omega) h
    have hone := fun (x : Int) (hx : x ≠ 0) (ho : oneE keyOk' codeOk p = x) => (show plE keyOk' codeOk l l.length = x by
      rw [ho, if_neg hx] at hst
      rw [hfin (by rw [hst]; exact hx), hst])
    have hms : l.length - ((k : Int) + 1).toNat < l.length - (k : Int).toNat := by
      have e3 : ((k : Int) + 1).toNat = k + 1 := by omega
      rw [e3, Int.toNat_natCast]; omega
    by_cases hbk : badKey keyOk' p
    · rw [hone 3 (by omega) (if_pos hbk)]
      cases h1 : keyOk' p.key with
      | false => simp (disch := (first | omega | assumption)) only [hlt', idx_nat, List.length_map, hg, rkF_eq hsz, h1, go_sem, Int.reduceEq, Int.reduceLT, Int.reduceLE, Int.reduceNeg, Nat.reduceAdd, Nat.reduceLT, Nat.reduceEqDiff, Nat.reduceMul, Nat.reduceLeDiff, reduceIte, Nat.reduceBEq, reduceCtorEq, evP_D, evD_guard, evD_cons, evD_zero, evD_nil]
      | true =>
        by_cases h2 : (9 : Int) < p.key.size
        · simp (disch := (first | omega | assumption)) only [hlt', idx_nat, List.length_map, hg, rkF_eq hsz, h1, h2, go_sem, Int.reduceEq, Int.reduceLT, Int.reduceLE, Int.reduceNeg, Nat.reduceAdd, Nat.reduceLT, Nat.reduceEqDiff, Nat.reduceMul, Nat.reduceLeDiff, reduceIte, Nat.reduceBEq, reduceCtorEq, evP_D, evD_guard, evD_cons, evD_zero, evD_nil]
        · have h3 : Lib.indexByte p.key.data.toList 45 ≥ 0 := by
            rcases hbk with h | h | h
            · rw [h1] at h; cases h
            · omega
            · exact of_decide_eq_true h
          simp (disch := (first | omega | assumption)) only [hlt', idx_nat, List.length_map, hg, rkF_eq hsz, h1, h2, ixdF_eq, h3, go_sem, Int.reduceEq, Int.reduceLT, Int.reduceLE, Int.reduceNeg, Nat.reduceAdd, Nat.reduceLT, Nat.reduceEqDiff, Nat.reduceMul, Nat.reduceLeDiff, reduceIte, Nat.reduceBEq, reduceCtorEq, evP_D, evD_guard, evD_cons, evD_zero, evD_nil]
    have hk1 : keyOk' p.key = true := by
      cases h : keyOk' p.key with
      | true => rfl
      | false => exact absurd (.inl h) hbk
    have hk2 : ¬ (9 : Int) < p.key.size := fun h => hbk (.inr (.inl (by omega)))
    have hk3 : ¬ Lib.indexByte p.key.data.toList 45 ≥ 0 := fun h => hbk (.inr (.inr (decide_eq_true h)))
    by_cases hn : badNum p
    · rw [hone 1 (by omega) (by unfold oneE; rw [if_neg hbk, if_pos hn])]
      by_cases k1 : 0 ≤ p.kind ∧ p.kind ≤ 1
      case neg =>
        have k1' : decide (0 ≤ p.kind ∧ p.kind ≤ 1) = false := decide_eq_false k1
        simp (disch := (first | omega | assumption)) only [hlt', idx_nat, List.length_map, hg, rkF_eq hsz, hk1, hk2, ixdF_eq, hk3, withinF_eq, k1', go_sem, Int.reduceEq, Int.reduceLT, Int.reduceLE, Int.reduceNeg, Nat.reduceAdd, Nat.reduceLT, Nat.reduceEqDiff, Nat.reduceMul, Nat.reduceLeDiff, reduceIte, Nat.reduceBEq, reduceCtorEq, evP_D, evD_guard, evD_cons, evD_zero, evD_nil]
      by_cases k2 : 0 ≤ p.at_ ∧ p.at_ ≤ 292193
      case neg =>
        have k2' : decide (0 ≤ p.at_ ∧ p.at_ ≤ 292193) = false := decide_eq_false k2
        simp (disch := (first | omega | assumption)) only [hlt', idx_nat, List.length_map, hg, rkF_eq hsz, hk1, hk2, ixdF_eq, hk3, withinF_eq, dayF_eq, k1, and_self, k2', go_sem, Int.reduceEq, Int.reduceLT, Int.reduceLE, Int.reduceNeg, Nat.reduceAdd, Nat.reduceLT, Nat.reduceEqDiff, Nat.reduceMul, Nat.reduceLeDiff, reduceIte, Nat.reduceBEq, reduceCtorEq, evP_D, evD_guard, evD_cons, evD_zero, evD_nil]
      by_cases k3 : 0 ≤ p.amt ∧ p.amt ≤ 1000000000000
      case neg =>
        have k3' : decide (0 ≤ p.amt ∧ p.amt ≤ 1000000000000) = false := decide_eq_false k3
        simp (disch := (first | omega | assumption)) only [hlt', idx_nat, List.length_map, hg, rkF_eq hsz, hk1, hk2, ixdF_eq, hk3, withinF_eq, dayF_eq, k1, k2, and_self, k3', go_sem, Int.reduceEq, Int.reduceLT, Int.reduceLE, Int.reduceNeg, Nat.reduceAdd, Nat.reduceLT, Nat.reduceEqDiff, Nat.reduceMul, Nat.reduceLeDiff, reduceIte, Nat.reduceBEq, reduceCtorEq, evP_D, evD_guard, evD_cons, evD_zero, evD_nil]
      have k4' : decide (1 ≤ p.num ∧ p.num ≤ 40) = false := decide_eq_false fun h => by
        unfold badNum at hn
        rcases hn with h' | h' | h' | h'
        · exact h' k1
        · exact h' k2
        · exact h' k3
        · exact h' h
      simp (disch := (first | omega | assumption)) only [hlt', idx_nat, List.length_map, hg, rkF_eq hsz, hk1, hk2, ixdF_eq, hk3, withinF_eq, dayF_eq, k1, k2, k3, and_self, k4', go_sem, Int.reduceEq, Int.reduceLT, Int.reduceLE, Int.reduceNeg, Nat.reduceAdd, Nat.reduceLT, Nat.reduceEqDiff, Nat.reduceMul, Nat.reduceLeDiff, reduceIte, Nat.reduceBEq, reduceCtorEq, evP_D, evD_guard, evD_cons, evD_zero, evD_nil]
    have k1 : 0 ≤ p.kind ∧ p.kind ≤ 1 := Classical.byContradiction fun h => hn (.inl h)
    have k2 : 0 ≤ p.at_ ∧ p.at_ ≤ 292193 := Classical.byContradiction fun h => hn (.inr (.inl h))
    have k3 : 0 ≤ p.amt ∧ p.amt ≤ 1000000000000 := Classical.byContradiction fun h => hn (.inr (.inr (.inl h)))
    have k4 : 1 ≤ p.num ∧ p.num ≤ 40 := Classical.byContradiction fun h => hn (.inr (.inr (.inr h)))
    by_cases hc : badCode codeOk p
    · rw [hone 3 (by omega) (by unfold oneE; rw [if_neg hbk, if_neg hn, if_pos hc])]
      cases h1 : codeOk p.deb with
      | false => simp (disch := (first | omega | assumption)) only [hlt', idx_nat, List.length_map, hg, rkF_eq hsz, hk1, hk2, ixdF_eq, hk3, withinF_eq, dayF_eq, k1, k2, k3, k4, and_self, codeF_eq, h1, go_sem, Int.reduceEq, Int.reduceLT, Int.reduceLE, Int.reduceNeg, Nat.reduceAdd, Nat.reduceLT, Nat.reduceEqDiff, Nat.reduceMul, Nat.reduceLeDiff, reduceIte, Nat.reduceBEq, reduceCtorEq, evP_D, evD_guard, evD_cons, evD_zero, evD_nil]
      | true =>
        cases h2 : codeOk p.cre with
        | false => simp (disch := (first | omega | assumption)) only [hlt', idx_nat, List.length_map, hg, rkF_eq hsz, hk1, hk2, ixdF_eq, hk3, withinF_eq, dayF_eq, k1, k2, k3, k4, and_self, codeF_eq, h1, h2, go_sem, Int.reduceEq, Int.reduceLT, Int.reduceLE, Int.reduceNeg, Nat.reduceAdd, Nat.reduceLT, Nat.reduceEqDiff, Nat.reduceMul, Nat.reduceLeDiff, reduceIte, Nat.reduceBEq, reduceCtorEq, evP_D, evD_guard, evD_cons, evD_zero, evD_nil]
        | true =>
          have h4 : decide (p.deb = p.cre) = true := decide_eq_true (by
            rcases hc with h | h | h
            · rw [h1] at h; cases h
            · rw [h2] at h; cases h
            · exact h)
          simp (disch := (first | omega | assumption)) only [hlt', idx_nat, List.length_map, hg, rkF_eq hsz, hk1, hk2, ixdF_eq, hk3, withinF_eq, dayF_eq, k1, k2, k3, k4, and_self, codeF_eq, h1, h2, bin_eql_str, h4, go_sem, Int.reduceEq, Int.reduceLT, Int.reduceLE, Int.reduceNeg, Nat.reduceAdd, Nat.reduceLT, Nat.reduceEqDiff, Nat.reduceMul, Nat.reduceLeDiff, reduceIte, Nat.reduceBEq, reduceCtorEq, evP_D, evD_guard, evD_cons, evD_zero, evD_nil]
    have c1 : codeOk p.deb = true := by
      cases h : codeOk p.deb with
      | true => rfl
      | false => exact absurd (.inl h) hc
    have c2 : codeOk p.cre = true := by
      cases h : codeOk p.cre with
      | true => rfl
      | false => exact absurd (.inr (.inl h)) hc
    have c3 : decide (p.deb = p.cre) = false := decide_eq_false fun h => hc (.inr (.inr h))
    have ha := rdaF_eq (n := p.at_) (k := p.num - 1) (by omega)
    by_cases hm : Cal.add p.at_ (p.num - 1) < 0
    · rw [hone 2 (by omega) (by unfold oneE; rw [if_neg hbk, if_neg hn, if_neg hc, if_pos hm])]
      simp (disch := (first | omega | assumption)) only [hlt', idx_nat, List.length_map, hg, rkF_eq hsz, hk1, hk2, ixdF_eq, hk3, withinF_eq, dayF_eq, k1, k2, k3, k4, and_self, codeF_eq, c1, c2, bin_eql_str, c3, ha, hm, go_sem, Int.reduceEq, Int.reduceLT, Int.reduceLE, Int.reduceNeg, Nat.reduceAdd, Nat.reduceLT, Nat.reduceEqDiff, Nat.reduceMul, Nat.reduceLeDiff, reduceIte, Nat.reduceBEq, reduceCtorEq, evP_D, evD_guard, evD_cons, evD_zero, evD_nil]
    have ho : oneE keyOk' codeOk p = 0 := by unfold oneE; rw [if_neg hbk, if_neg hn, if_neg hc, if_neg hm]
    rw [if_pos ho, ← keysP_has] at hst
    have hfi := find_set p.key (keysP l k)
    cases hcs : hasC p.key (keysP l k) with
    | true =>
      rw [hcs, if_pos rfl] at hfi hst
      have hR : plE keyOk' codeOk l l.length = 5 := by rw [hfin (by omega), hst]
      rw [hR]
      simp (disch := (first | omega | assumption)) only [hlt', idx_nat, List.length_map, hg, rkF_eq hsz, hk1, hk2, ixdF_eq, hk3, withinF_eq, dayF_eq, k1, k2, k3, k4, and_self, codeF_eq, c1, c2, bin_eql_str, c3, ha, hm, hfi, go_sem, Int.reduceEq, Int.reduceLT, Int.reduceLE, Int.reduceNeg, Nat.reduceAdd, Nat.reduceLT, Nat.reduceEqDiff, Nat.reduceMul, Nat.reduceLeDiff, reduceIte, Nat.reduceBEq, reduceCtorEq, evP_D, evD_guard, evD_cons, evD_zero, evD_nil]
    | false =>
      rw [hcs, if_neg (by simp)] at hfi hst
      have hup := upd_set p.key (keysP l k) hcs
      rw [← keysP_succ hp] at hup
      simp (disch := (first | omega | assumption)) only [hlt', idx_nat, List.length_map, hg, rkF_eq hsz, hk1, hk2, ixdF_eq, hk3, withinF_eq, dayF_eq, k1, k2, k3, k4, and_self, codeF_eq, c1, c2, bin_eql_str, c3, ha, hm, hfi, hup, go_sem, Int.reduceEq, Int.reduceLT, Int.reduceLE, Int.reduceNeg, Nat.reduceAdd, Nat.reduceLT, Nat.reduceEqDiff, Nat.reduceMul, Nat.reduceLeDiff, reduceIte, Nat.reduceBEq, reduceCtorEq, evP_D, evD_guard, evD_cons, evD_zero, evD_nil]
      exact ⟨⟨k + 1, ⟨hlt, hst⟩, rfl⟩, hms⟩
end Go.Proofs.YtdmkmbaaemhhhaaDoor
