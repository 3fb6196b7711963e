/-
  Accounts, run by the machine: what Check and its like answer.
-/
import Derived.Test.YtdmkmbaaemhhhaaDoorAcE
namespace Go.Acc
open Go
def prv (l : List (ByteArray × Int)) (k : Nat) : Option ByteArray := if k = 0 then none else (l[k - 1]?).map (·.1)
theorem acE_drop {l : List (ByteArray × Int)} {k : Nat} {c : ByteArray} {n : Int} (h : l[k]? = some (c, n)) :
    acE (prv l k) (l.drop k) = if codeOk c = false then 3 else if ¬ (0 ≤ n ∧ n ≤ 4) then 1 else if (match prv l k with | some p => !Op.bytesLess p.toList c.toList | none => false) = true then 3 else acE (prv l (k + 1)) (l.drop (k + 1)) := by
  have hlt : k < l.length := (List.getElem?_eq_some_iff.1 h).1
  have he : l[k] = (c, n) := (List.getElem?_eq_some_iff.1 h).2
  have hp : prv l (k + 1) = some c := by unfold prv; rw [if_neg (by omega), Nat.add_sub_cancel, h]; rfl
  rw [List.drop_eq_getElem_cons hlt, he, hp]
  rfl
end Go.Acc
namespace Go.Proofs.YtdmkmbaaemhhhaaDoor
open Go Go.Ev Go.RowKit Go.Acc
set_option maxHeartbeats 4000000
set_option linter.unusedSimpArgs false
set_option linter.unusedVariables false
attribute [local go_sem] mutV getB mvB bkB V.mv V.mvL V.bk V.bkL Blk.mv Blk.bk posN nmN backN noDup app_writes setHL_nil setHL_cons postM_ret postM_normal resM hasB_nil hasB_cons St.mut names_nil names_cons sortV cellOf mkX_M mkX_S mkX_ln lnL_at ms0_mt ms0_st V.lone V.loneL List.zip_cons_cons List.zip_nil_left Option.isNone_none bornV subE partR unB bytesW boundsV ownP sliceW copyV clearV lenM takeV tk1 mapsV mkMapV hintOk lookV updV mapKE keyOk V.key app_lend callW_fn lendV postL_ret postL_normal postT_ret postT_normal takeR St.lent mkX_L bin_eql_vz bin_eql_zv bin_eql_rz bin_eql_zr bin_eql_zz bin_neq_vz bin_neq_zv bin_neq_rz bin_neq_zr bin_neq_zz eqH nilEq nonE plainI gOf_bool gOf_skip g_some g_none Int.ofNat_zero Int.cast_ofNat_Int Bool.false_and Bool.and_false sliceV noBox elemsZ V.scrub V.scrubL Blk.scrub appendV isSlice maxLen_eq leT List.contains_nil List.contains_cons nvL_at fzL_at fillV V.plain V.plainL Blk.plain List.size_toArray mapO_nil mapO_cons Option.isNone_some beqT beqF oI_not mkX_e phi_nil phi_cons bin_eql_bool bin_neq_bool bin_eql_agg bin_neq_agg eqV eqFs eqK_int eqK_bool' eqK_str mkX_T mkX_Φ mkX_n mkX_f mkX_d mkX_r nv0_at fz0_at evQ_dr evP_W evW_nil evW_cons evW_guard okW_eq tame_none tame_new tame_write wb_none wb_new wb_write okU_some offW_none offW_some touchOf V.noRef V.noRefL Option.isSome_some Option.isSome_none mild_none mild_new Option.getD_some Option.getD_none evQ_seq evQ_region evQ_block evQ_cond evQ_ret evQ_skip evQ_exit evO_cons evO_nil evO_guard freezeL_nil oS_some oS_none oS_ite oS_ite' oB_bool oI_true oI_false oE_normal oE_exit oE_ret bQ_normal bQ_ret bQ_exit lQ_normal lQ_ret lQ_exit List.zipIdx_cons List.zipIdx_nil List.map_cons List.map_nil evalOp opd_const opd_tmp opd_func ofC_int ofC_bool ofC_str ofC_nil app_none app_new app_write app_change putE_some putE_none setA_cons setA_nil setH_cons setH_nil mapA_cons mapA_nil look_cons look_nil e_mk h_mk drop_nil drop_mk keep_mk dstOk_some dstOk_none guardT_eq true_and and_true Bool.not_false Bool.not_true selB_true selB_false mem_nil mem_cons kpL_nil kpL_cons drL_nil drL_cons closed_mk V.refsIn V.refsInL Blk.refsIn List.all_cons List.all_nil lenV bin_add bin_sub bin_mul bin_quo bin_rem bin_eql bin_neq bin_lss bin_leq bin_gtr bin_geq un_neg un_not post_ret post_normal St.init Bool.false_eq_true List.length_map Bool.or_false Bool.or_true Bool.false_or Bool.true_or beq_self_eq_true Option.map_some Option.map_none Option.bind_some List.getElem?_cons_zero List.getElem?_cons_succ scalar stor isAggV V.cells List.cons_append List.nil_append if_true if_false wrap_of callV V.dataL V.data Bool.and_true Bool.true_and fresh names V.ren V.renL retV resV packL packV packC getBlks wrapR subV putV decide_true decide_false TK.agg List.length_cons List.length_nil List.take_succ_cons List.take_zero List.drop_succ_cons List.drop_zero List.take_nil List.drop_nil Nat.zero_add Nat.add_zero List.append_nil List.getElem?_nil elemsV ro ro0 ro1 roC ty1 ty2 ty3 ty4 ty5 ty6 ty7 ty8 ty9 ty10 ty11 ty12 ty13 ty14 ty15 ty16 ty17 ty18 ty19 ty21 ty22 ty23 ty24 ty26 ty27 ty28 ty29 ty30 ty31 ty32 ty33 ty34 ty35 ty36 ty37 ty38 ty39 ty40 ty41 ty42 ty44 ty45 ty47 ty49 ty51 ty53 ty54 ty55 ty56 ty57 ty58 ty59 ty60 ty61 ty62 ty63 ty64 ty65 ty66 ty67 ty68 ty69 ty70 ty71 ty72 ty73 ty74 ty75 ty76 ty77 ty78 ty79 ty80 ty81 ty82 ty83 ty84 ty85 ty86 ty87 ty88 ty89 ty90 ty92 ty93 ty94 ty95 ty96 ty97 ty98 ty99 ty100 ty101 ty102 ty103 ty104 ty105 ty107 ty108 ty109 ty110 ty111 ty112 ty113 ty114 ty115 ty116 ty117 ty118 ty119 ty123 ty124 ty125 ty126 ty127 ty128 ty129 ty130 ty131 ty132 ty133 ty135 ty136 ty137 ty138 ty139 ty141 ty142 ty143 ty144 ty146 ty147 ty148 ty149 ty153 ty154 ty155 ty156 ty157 ty158 ty159 ty160 ty161 eqs29 eqs61 eqs79 eqs94
def acV (p : ByteArray × Int) : V := .agg [.str p.1, .int .i64 p.2]
def unAc : List V → Option (List (ByteArray × Int))
  | [] => some []
  | .agg [.str c, .int .i64 k] :: l => (unAc l).map fun r => (c, k) :: r
  | _ => none
theorem unAc_map : ∀ l : List (ByteArray × Int), unAc (l.map acV) = some l
  | [] => rfl
  | (c, k) :: l => by simp only [List.map_cons, acV, unAc]; rw [unAc_map l]; rfl
theorem unAc_eq : ∀ {es : List V} {l : List (ByteArray × Int)}, unAc es = some l → es = l.map acV
  | [], l, h => by simp only [unAc, Option.some.injEq] at h; subst h; rfl
  | v :: es, l, h => by
    unfold unAc at h
    split at h
    · rename_i heq; cases heq
    · rename_i c k t heq
      cases heq
      simp only [Option.map_eq_some_iff] at h
      obtain ⟨r, hr, rfl⟩ := h
      rw [unAc_eq hr]
      rfl
    · cases h
def chkF : List V → Option (V × List Blk)
  | [.row 2 es] => (unAc es).map fun l => (.int .i64 (acChk l), [])
  | _ => none
theorem chkF_eq (l : List (ByteArray × Int)) : chkF [.row 2 (l.map acV)] = some (.int .i64 (acChk l), []) := by
  simp only [chkF, unAc_map, Option.map_some]
theorem acV_get {l : List (ByteArray × Int)} {k : Nat} {c : ByteArray} {n : Int} (h : l[k]? = some (c, n)) : (l.map acV)[k]? = some (.agg [.str c, .int .i64 n]) := by rw [List.getElem?_map, h]; rfl
theorem check_sound {J : World → Prop} (hJ : Stable J) (l : List (ByteArray × Int)) : SoundAt Tryd.prog J 48 [.row 2 (l.map acV)] (.int .i64 (acChk l)) [] := by
  refine SoundAt.row 0 rfl (callOk Tryd.func48 rfl rfl) fun hlen => ?_
  simp only [maxLen, List.length_map] at hlen
  refine evFn (l := [(66, codeF)]) (nv := nv0) (fz := fz0) (dr := dr48) (dd := dd48) (lam := []) (ms := ms0) ⟨code_snd hJ, trivial⟩ hJ trivial ms0_ok Tryd.func48 rfl rfl (Nat.le_of_ble_eq_true rfl) (Nat.le_of_ble_eq_true rfl) drOk48 ?_
  dsimp only [Tryd.f48, dr48, dd48, Option.getD_some]
  refine ev_start ?_
  by_cases h3 : 24 < l.length
  · have h3' : (24 : Int) < l.length := by omega
    have e : acChk l = 2 := by unfold acChk; rw [if_pos h3]
    simp (disch := omega) only [h3', e, go_sem, Int.reduceEq, Int.reduceLT, Int.reduceLE, Int.reduceNeg, Nat.reduceAdd, Nat.reduceLT, Nat.reduceEqDiff, Nat.reduceMul, Nat.reduceLeDiff, reduceIte, Nat.reduceBEq, reduceCtorEq, evP_D, evD_guard, evD_cons, evD_zero, evD_nil]
  have h3' : ¬ (24 : Int) < l.length := by omega
  have e : acChk l = acE none l := by unfold acChk; rw [if_neg h3]
  rw [e]
  generalize hR : acE none l = R
  simp (disch := omega) only [h3', go_sem, Int.reduceEq, Int.reduceLT, Int.reduceLE, Int.reduceNeg, Nat.reduceAdd, Nat.reduceLT, Nat.reduceEqDiff, Nat.reduceMul, Nat.reduceLeDiff, reduceIte, Nat.reduceBEq, reduceCtorEq, evP_D, evD_guard, evD_cons, evD_zero, evD_nil]
  refine evQ_loop [0, 8, 9, 10] [] (fun σ => ∃ (k : Nat), (k ≤ l.length ∧ R = acE (prv l k) (l.drop k)) ∧ σ = ⟨[(0, .row 2 (l.map acV)), (8, .row 2 (l.map acV)), (9, .int .i64 l.length), (10, .int .i64 k)], []⟩)
    (fun σ => l.length - (match Ev.look 10 σ.env with | some (.int _ n) => n.toNat | _ => 0)) ?_ ?_
  · simp only [go_sem, Int.reduceEq, Int.reduceLT, Int.reduceLE, Int.reduceNeg, Nat.reduceAdd, Nat.reduceLT, Nat.reduceEqDiff, Nat.reduceMul, Nat.reduceLeDiff, reduceIte, Nat.reduceBEq, reduceCtorEq, evP_D, evD_guard, evD_cons, evD_zero, evD_nil]
    exact ⟨0, ⟨Nat.zero_le _, hR.symm⟩, rfl⟩
  · rintro σ ⟨k, ⟨hk, hall⟩, rfl⟩
    by_cases hlt : k < l.length
    · have hlt' : (k : Int) < l.length := by omega
      obtain ⟨⟨c, n⟩, hcn⟩ : ∃ p, l[k]? = some p := ⟨_, List.getElem?_eq_getElem hlt⟩
      have hg := acV_get hcn
      rw [acE_drop hcn] at hall
      have hms : l.length - ((k : Int) + 1).toNat < l.length - (k : Int).toNat := by
        have e3 : ((k : Int) + 1).toNat = k + 1 := by omega
        rw [e3, Int.toNat_natCast]; exact Nat.sub_lt_sub_left hlt (Nat.lt_succ_self k)
      cases hc : codeOk c with
      | false => (have hv := hall; simp only [hc, Bool.not_false, not_true, not_false_eq_true, Bool.true_eq_false, Bool.false_eq_true, if_true, if_false, and_self] at hv; simp (disch := (first | omega | assumption)) only [hlt', idx_nat, List.length_map, hg, codeF_eq, hc, hv, go_sem, Int.reduceEq, Int.reduceLT, Int.reduceLE, Int.reduceNeg, Nat.reduceAdd, Nat.reduceLT, Nat.reduceEqDiff, Nat.reduceMul, Nat.reduceLeDiff, reduceIte, Nat.reduceBEq, reduceCtorEq, evP_D, evD_guard, evD_cons, evD_zero, evD_nil])
      | true =>
        by_cases n1 : n < 0
        · have hn : ¬ (0 ≤ n ∧ n ≤ 4) := by omega
          (have hv := hall; simp only [hc, hn, Bool.not_false, not_true, not_false_eq_true, Bool.true_eq_false, Bool.false_eq_true, if_true, if_false, and_self] at hv; simp (disch := (first | omega | assumption)) only [hlt', idx_nat, List.length_map, hg, codeF_eq, hc, n1, hn, not_false_eq_true, hv, go_sem, Int.reduceEq, Int.reduceLT, Int.reduceLE, Int.reduceNeg, Nat.reduceAdd, Nat.reduceLT, Nat.reduceEqDiff, Nat.reduceMul, Nat.reduceLeDiff, reduceIte, Nat.reduceBEq, reduceCtorEq, evP_D, evD_guard, evD_cons, evD_zero, evD_nil])
        by_cases n2 : 4 < n
        · have hn : ¬ (0 ≤ n ∧ n ≤ 4) := by omega
          (have hv := hall; simp only [hc, hn, Bool.not_false, not_true, not_false_eq_true, Bool.true_eq_false, Bool.false_eq_true, if_true, if_false, and_self] at hv; simp (disch := (first | omega | assumption)) only [hlt', idx_nat, List.length_map, hg, codeF_eq, hc, n1, n2, hn, not_false_eq_true, hv, go_sem, Int.reduceEq, Int.reduceLT, Int.reduceLE, Int.reduceNeg, Nat.reduceAdd, Nat.reduceLT, Nat.reduceEqDiff, Nat.reduceMul, Nat.reduceLeDiff, reduceIte, Nat.reduceBEq, reduceCtorEq, evP_D, evD_guard, evD_cons, evD_zero, evD_nil])
        have hn : 0 ≤ n ∧ n ≤ 4 := by omega
        by_cases hk0 : k = 0
        · subst hk0
          have hp : prv l 0 = none := rfl
          have h0 : ¬ (0 : Int) < ((0 : Nat) : Int) := by omega
          have z0 : ((0 : Nat) : Int) = 0 := rfl
          have hi0 := idx_nat l.length 0 hlt
          rw [z0] at hlt' h0 hi0 hms ⊢
          simp (disch := (first | omega | assumption)) only [hlt', hi0, List.length_map, hg, codeF_eq, hc, n1, n2, hn, hp, h0, not_true, go_sem, Int.reduceEq, Int.reduceLT, Int.reduceLE, Int.reduceNeg, Nat.reduceAdd, Nat.reduceLT, Nat.reduceEqDiff, Nat.reduceMul, Nat.reduceLeDiff, reduceIte, Nat.reduceBEq, reduceCtorEq, evP_D, evD_guard, evD_cons, evD_zero, evD_nil]
          simp only [hc, hn, hp, not_true, and_self, Bool.true_eq_false, Bool.false_eq_true, if_false] at hall
          exact ⟨⟨1, ⟨hlt, hall⟩, rfl⟩, hms⟩
        · have h0 : (0 : Int) < k := by omega
          have hk1 : k - 1 < l.length := by omega
          obtain ⟨⟨c', n'⟩, hcn'⟩ : ∃ p, l[k - 1]? = some p := ⟨_, List.getElem?_eq_getElem hk1⟩
          have hg' := acV_get hcn'
          have hp : prv l k = some c' := by unfold prv; rw [if_neg hk0, hcn']; rfl
          have e1 : (k : Int) - 1 = ((k - 1 : Nat) : Int) := by omega
          cases hb : Op.bytesLess c'.toList c.toList with
          | false => (have hv := hall; simp only [hc, hn, hp, hb, Bool.not_false, not_true, not_false_eq_true, Bool.true_eq_false, Bool.false_eq_true, if_true, if_false, and_self] at hv; simp (disch := (first | omega | assumption)) only [hlt', idx_nat, List.length_map, hg, hg', codeF_eq, hc, n1, n2, hn, hp, h0, e1, hb, bin_geq_str, not_true, hv, go_sem, Int.reduceEq, Int.reduceLT, Int.reduceLE, Int.reduceNeg, Nat.reduceAdd, Nat.reduceLT, Nat.reduceEqDiff, Nat.reduceMul, Nat.reduceLeDiff, reduceIte, Nat.reduceBEq, reduceCtorEq, evP_D, evD_guard, evD_cons, evD_zero, evD_nil])
          | true =>
            simp (disch := (first | omega | assumption)) only [hlt', idx_nat, List.length_map, hg, hg', codeF_eq, hc, n1, n2, hn, hp, h0, e1, hb, bin_geq_str, not_true, go_sem, Int.reduceEq, Int.reduceLT, Int.reduceLE, Int.reduceNeg, Nat.reduceAdd, Nat.reduceLT, Nat.reduceEqDiff, Nat.reduceMul, Nat.reduceLeDiff, reduceIte, Nat.reduceBEq, reduceCtorEq, evP_D, evD_guard, evD_cons, evD_zero, evD_nil]
            simp only [hc, hn, hp, hb, not_true, and_self, Bool.not_true, Bool.true_eq_false, Bool.false_eq_true, if_false] at hall
            exact ⟨⟨k + 1, ⟨hlt, hall⟩, rfl⟩, hms⟩
    · have hk' : k = l.length := by omega
      subst hk'
      have hlt' : ¬ ((l.length : Int) < l.length) := by omega
      have e0 : R = 0 := by rw [hall, List.drop_length]; rfl
      simp (disch := (first | omega | assumption)) only [hlt', e0, go_sem, Int.reduceEq, Int.reduceLT, Int.reduceLE, Int.reduceNeg, Nat.reduceAdd, Nat.reduceLT, Nat.reduceEqDiff, Nat.reduceMul, Nat.reduceLeDiff, reduceIte, Nat.reduceBEq, reduceCtorEq, evP_D, evD_guard, evD_cons, evD_zero, evD_nil]
theorem check_snd {J : World → Prop} (hJ : Stable J) : Snd Tryd.prog J 48 chkF := by
  intro args r bs h
  unfold chkF at h
  split at h
  · rename_i es
    simp only [Option.map_eq_some_iff] at h
    obtain ⟨l, hl, h⟩ := h
    obtain ⟨rfl, rfl⟩ := some_pair (congrArg some h)
    rw [unAc_eq hl]
    exact check_sound hJ l
  · cases h
end Go.Proofs.YtdmkmbaaemhhhaaDoor
