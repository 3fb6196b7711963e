/-
  Books, run by the machine: the order of entries, known accounts, Check.
-/
import Derived.Test.YtdmkmbaaemhhhaaDoorShM
import Derived.Test.YtdmkmbaaemhhhaaDoorBkP
namespace Go.Proofs.YtdmkmbaaemhhhaaDoor
open Go Go.Ev Go.RowKit Go.Acc
set_option maxHeartbeats 4000000
set_option linter.unusedSimpArgs false
set_option linter.unusedVariables false
attribute [local go_sem] mutV getB mvB bkB V.mv V.mvL V.bk V.bkL Blk.mv Blk.bk posN nmN backN noDup app_writes setHL_nil setHL_cons postM_ret postM_normal resM hasB_nil hasB_cons St.mut names_nil names_cons sortV cellOf mkX_M mkX_S mkX_ln lnL_at ms0_mt ms0_st V.lone V.loneL List.zip_cons_cons List.zip_nil_left Option.isNone_none bornV subE partR unB bytesW boundsV ownP sliceW copyV clearV lenM takeV tk1 mapsV mkMapV hintOk lookV updV mapKE keyOk V.key app_lend callW_fn lendV postL_ret postL_normal postT_ret postT_normal takeR St.lent mkX_L bin_eql_vz bin_eql_zv bin_eql_rz bin_eql_zr bin_eql_zz bin_neq_vz bin_neq_zv bin_neq_rz bin_neq_zr bin_neq_zz eqH nilEq nonE plainI gOf_bool gOf_skip g_some g_none Int.ofNat_zero Int.cast_ofNat_Int Bool.false_and Bool.and_false sliceV noBox elemsZ V.scrub V.scrubL Blk.scrub appendV isSlice maxLen_eq leT List.contains_nil List.contains_cons nvL_at fzL_at fillV V.plain V.plainL Blk.plain List.size_toArray mapO_nil mapO_cons Option.isNone_some beqT beqF oI_not mkX_e phi_nil phi_cons bin_eql_bool bin_neq_bool bin_eql_agg bin_neq_agg eqV eqFs eqK_int eqK_bool' eqK_str mkX_T mkX_Φ mkX_n mkX_f mkX_d mkX_r nv0_at fz0_at evQ_dr evP_W evW_nil evW_cons evW_guard okW_eq tame_none tame_new tame_write wb_none wb_new wb_write okU_some offW_none offW_some touchOf V.noRef V.noRefL Option.isSome_some Option.isSome_none mild_none mild_new Option.getD_some Option.getD_none evQ_seq evQ_region evQ_block evQ_cond evQ_ret evQ_skip evQ_exit evO_cons evO_nil evO_guard freezeL_nil oS_some oS_none oS_ite oS_ite' oB_bool oI_true oI_false oE_normal oE_exit oE_ret bQ_normal bQ_ret bQ_exit lQ_normal lQ_ret lQ_exit List.zipIdx_cons List.zipIdx_nil List.map_cons List.map_nil evalOp opd_const opd_tmp opd_func ofC_int ofC_bool ofC_str ofC_nil app_none app_new app_write app_change putE_some putE_none setA_cons setA_nil setH_cons setH_nil mapA_cons mapA_nil look_cons look_nil e_mk h_mk drop_nil drop_mk keep_mk dstOk_some dstOk_none guardT_eq true_and and_true Bool.not_false Bool.not_true selB_true selB_false mem_nil mem_cons kpL_nil kpL_cons drL_nil drL_cons closed_mk V.refsIn V.refsInL Blk.refsIn List.all_cons List.all_nil lenV bin_add bin_sub bin_mul bin_quo bin_rem bin_eql bin_neq bin_lss bin_leq bin_gtr bin_geq un_neg un_not post_ret post_normal St.init Bool.false_eq_true List.length_map Bool.or_false Bool.or_true Bool.false_or Bool.true_or beq_self_eq_true Option.map_some Option.map_none Option.bind_some List.getElem?_cons_zero List.getElem?_cons_succ scalar stor isAggV V.cells List.cons_append List.nil_append if_true if_false wrap_of callV V.dataL V.data Bool.and_true Bool.true_and fresh names V.ren V.renL retV resV packL packV packC getBlks wrapR subV putV decide_true decide_false TK.agg List.length_cons List.length_nil List.take_succ_cons List.take_zero List.drop_succ_cons List.drop_zero List.take_nil List.drop_nil Nat.zero_add Nat.add_zero List.append_nil List.getElem?_nil elemsV ro ro0 ro1 roC ty1 ty2 ty3 ty4 ty5 ty6 ty7 ty8 ty9 ty10 ty11 ty12 ty13 ty14 ty15 ty16 ty17 ty18 ty19 ty21 ty22 ty23 ty24 ty26 ty27 ty28 ty29 ty30 ty31 ty32 ty33 ty34 ty35 ty36 ty37 ty38 ty39 ty40 ty41 ty42 ty44 ty45 ty47 ty49 ty51 ty53 ty54 ty55 ty56 ty57 ty58 ty59 ty60 ty61 ty62 ty63 ty64 ty65 ty66 ty67 ty68 ty69 ty70 ty71 ty72 ty73 ty74 ty75 ty76 ty77 ty78 ty79 ty80 ty81 ty82 ty83 ty84 ty85 ty86 ty87 ty88 ty89 ty90 ty92 ty93 ty94 ty95 ty96 ty97 ty98 ty99 ty100 ty101 ty102 ty103 ty104 ty105 ty107 ty108 ty109 ty110 ty111 ty112 ty113 ty114 ty115 ty116 ty117 ty118 ty119 ty123 ty124 ty125 ty126 ty127 ty128 ty129 ty130 ty131 ty132 ty133 ty135 ty136 ty137 ty138 ty139 ty141 ty142 ty143 ty144 ty146 ty147 ty148 ty149 ty153 ty154 ty155 ty156 ty157 ty158 ty159 ty160 ty161 eqs29 eqs61 eqs79 eqs94
def enW (x : En) : V := .agg [.str x.1, .int .i64 x.2.1, .row 2 (x.2.2.map acV)]
def bkV (A : List (ByteArray × Int)) (E : List En) (s : Int) : V := .agg [.row 2 (A.map acV), .row 3 (E.map enW), .int .i64 s]
theorem enW_get {E : List En} {k : Nat} {c : ByteArray} {d : Int} {l : List (ByteArray × Int)} (h : E[k]? = some (c, d, l)) : (E.map enW)[k]? = some (.agg [.str c, .int .i64 d, .row 2 (l.map acV)]) := by rw [List.getElem?_map, h]; rfl
def stcF : List V → Option (V × List Blk)
  | [.str a, .str b] => some (.int .i64 (Lib.compareBytes a.data.toList b.data.toList), [])
  | _ => none
theorem stcF_eq (a b : ByteArray) : stcF [.str a, .str b] = some (.int .i64 (Lib.compareBytes a.data.toList b.data.toList), []) := rfl
theorem stc_snd {J : World → Prop} : Snd Tryd.prog J 83 stcF := by
  intro args r bs h
  unfold stcF at h
  split at h
  · rename_i a b
    obtain ⟨rfl, rfl⟩ := some_pair h
    exact sound_plain (callOk Tryd.func83 rfl rfl) rfl rfl fun w _ => (show Calls Tryd.prog 83 _ w _ from Any.strings_Compare Tryd.lays106 a b w).mono (by rintro e w' ⟨rfl, rfl⟩; exact ⟨rfl, .refl _ _⟩)
  · cases h
def cmpF : List V → Option (V × List Blk)
  | [.agg [.str a, .int .i64 d, .row 2 l], .agg [.str b, .int .i64 e, .row 2 m]] => if (0 ≤ d ∧ d ≤ 292193) ∧ 0 ≤ e ∧ e ≤ 292193 then some (.int .i64 (cmpE (a, d, []) (b, e, [])), []) else none
  | _ => none
theorem cmpF_eq {a b : ByteArray} {d e : Int} {l m : List (ByteArray × Int)} (hd : 0 ≤ d ∧ d ≤ 292193) (he : 0 ≤ e ∧ e ≤ 292193) : cmpF [.agg [.str a, .int .i64 d, .row 2 (l.map acV)], .agg [.str b, .int .i64 e, .row 2 (m.map acV)]] = some (.int .i64 (cmpE (a, d, l) (b, e, m)), []) := by
  simp only [cmpF]
  exact if_pos ⟨hd, he⟩
theorem cmp_snd {J : World → Prop} (hJ : Stable J) : Snd Tryd.prog J 51 cmpF := by
  intro args r bs h
  unfold cmpF at h
  split at h
  · rename_i a d l b e m
    split at h
    · rename_i hc
      obtain ⟨rfl, rfl⟩ := some_pair h
      refine evFn (l := [(83, stcF)]) (nv := nv0) (fz := fz0) (dr := dr51) (dd := dd51) (lam := []) (ms := ms0) ⟨stc_snd, trivial⟩ hJ trivial ms0_ok Tryd.func51 rfl rfl (Nat.le_of_ble_eq_true rfl) (Nat.le_of_ble_eq_true rfl) drOk51 ?_
      dsimp only [Tryd.f51, dr51, dd51, Option.getD_some]
      refine ev_start ?_
      by_cases hde : d = e
      · have e1 : cmpE (a, d, []) (b, e, []) = Lib.compareBytes a.data.toList b.data.toList := if_pos hde
        rw [e1]
        simp (disch := omega) only [stcF_eq, hde, go_sem, Int.reduceEq, Int.reduceLT, Int.reduceLE, Int.reduceNeg, Nat.reduceAdd, Nat.reduceLT, Nat.reduceEqDiff, Nat.reduceMul, Nat.reduceLeDiff, reduceIte, Nat.reduceBEq, reduceCtorEq, evP_D, evD_guard, evD_cons, evD_zero, evD_nil]
      · have e1 : cmpE (a, d, []) (b, e, []) = d - e := if_neg hde
        rw [e1]
        simp (disch := omega) only [hde, go_sem, Int.reduceEq, Int.reduceLT, Int.reduceLE, Int.reduceNeg, Nat.reduceAdd, Nat.reduceLT, Nat.reduceEqDiff, Nat.reduceMul, Nat.reduceLeDiff, reduceIte, Nat.reduceBEq, reduceCtorEq, evP_D, evD_guard, evD_cons, evD_zero, evD_nil]
    · cases h
  · cases h
def findF : List V → Option (V × List Blk)
  | [.row 2 es, .str c] => (unAc es).map fun A => (.int .i64 (fidx c A), [])
  | _ => none
theorem findF_eq (A : List (ByteArray × Int)) (c : ByteArray) : findF [.row 2 (A.map acV), .str c] = some (.int .i64 (fidx c A), []) := by simp only [findF, unAc_map, Option.map_some]
theorem fidx_neg (c : ByteArray) (A : List (ByteArray × Int)) : decide (fidx c A < 0) = !(hasA A c) := by
  unfold fidx hasA
  cases h : A.any (isC c) with
  | true => rw [if_pos rfl]; simp
  | false => rw [if_neg (by simp)]; rfl
theorem find_snd {J : World → Prop} (hJ : Stable J) : Snd Tryd.prog J 76 findF := by
  intro args r bs h
  unfold findF at h
  split at h
  · rename_i es c
    simp only [Option.map_eq_some_iff] at h
    obtain ⟨A, hA, h⟩ := h
    obtain ⟨rfl, rfl⟩ := some_pair (congrArg some h)
    rw [unAc_eq hA]
    exact find_sound hJ A c
  · cases h
def kn1F : List V → Option (V × List Blk)
  | [.agg [.str c, .int .i64 n], .rd (.agg [.row 2 es, .row 3 xs, .int .i64 s]) 0] => (unAc es).map fun A => (.bool (!(hasA A c)), [])
  | _ => none
theorem kn1_snd {J : World → Prop} (hJ : Stable J) : Snd Tryd.prog J 82 kn1F := by
  intro args r bs h
  unfold kn1F at h
  split at h
  · rename_i c n es xs s
    simp only [Option.map_eq_some_iff] at h
    obtain ⟨A, hA, h⟩ := h
    obtain ⟨rfl, rfl⟩ := some_pair (congrArg some h)
    rw [unAc_eq hA]
    refine evFn (l := [(76, findF)]) (nv := nv0) (fz := fz0) (dr := dr82) (dd := dd82) (lam := []) (ms := ms0) ⟨find_snd hJ, trivial⟩ hJ trivial ms0_ok Tryd.func82 rfl rfl (Nat.le_of_ble_eq_true rfl) (Nat.le_of_ble_eq_true rfl) drOk82 ?_
    dsimp only [Tryd.f82, dr82, dd82, Option.getD_some]
    refine ev_start ?_
    simp (disch := omega) only [findF_eq, fidx_neg, go_sem, Int.reduceEq, Int.reduceLT, Int.reduceLE, Int.reduceNeg, Nat.reduceAdd, Nat.reduceLT, Nat.reduceEqDiff, Nat.reduceMul, Nat.reduceLeDiff, reduceIte, Nat.reduceBEq, reduceCtorEq, evP_D, evD_guard, evD_cons, evD_zero, evD_nil]
  · cases h
def knownF : List V → Option (V × List Blk)
  | [.agg [.row 2 es, .row 3 xs, .int .i64 s], .agg [.str k, .int .i64 d, .row 2 ls]] => match unAc es, unAc ls with
    | some A, some l => some (.bool (knownB A (k, d, l)), [])
    | _, _ => none
  | _ => none
theorem knownF_eq (A : List (ByteArray × Int)) (xs : List V) (s : Int) (k : ByteArray) (d : Int) (l : List (ByteArray × Int)) : knownF [.agg [.row 2 (A.map acV), .row 3 xs, .int .i64 s], .agg [.str k, .int .i64 d, .row 2 (l.map acV)]] = some (.bool (knownB A (k, d, l)), []) := by simp only [knownF, unAc_map]
theorem known_snd {J : World → Prop} (hJ : Stable J) : Snd Tryd.prog J 50 knownF := by
  intro args r bs h
  unfold knownF at h
  split at h
  · rename_i es xs s k d ls
    split at h
    · rename_i A l hA hl
      obtain ⟨rfl, rfl⟩ := some_pair h
      rw [unAc_eq hA, unAc_eq hl]
      have hC := containsL_sound hJ 82 [.rd (.agg [.row 2 (A.map acV), .row 3 xs, .int .i64 s]) 0] kn1F (kn1_snd hJ) rfl (fun p => !(hasA A p.1)) l fun p _ => by simp only [kn1F, acV, unAc_map, Option.map_some]
      have hB : knownB A (k, d, l) = !(l.any fun p => !(hasA A p.1)) := by
        unfold knownB
        rw [List.not_any_eq_all_not]
        simp
      rw [hB]
      refine evFn (l := [(81, at1 [.row 2 (l.map acV), .fn 82 [.rd (.agg [.row 2 (A.map acV), .row 3 xs, .int .i64 s]) 0]] (.bool (l.any fun p => !(hasA A p.1)), []))]) (nv := nv0) (fz := fz0) (dr := dr50) (dd := dd50) (lam := []) (ms := ms0) ⟨at1_snd hC, trivial⟩ hJ trivial ms0_ok Tryd.func50 rfl rfl (Nat.le_of_ble_eq_true rfl) (Nat.le_of_ble_eq_true rfl) drOk50 ?_
      dsimp only [Tryd.f50, dr50, dd50, Option.getD_some]
      refine ev_start ?_
      simp (disch := omega) only [at1_eq, List.mapM_cons, List.mapM_nil, Option.bind_eq_bind, Option.pure_def, Option.bind_some, go_sem, Int.reduceEq, Int.reduceLT, Int.reduceLE, Int.reduceNeg, Nat.reduceAdd, Nat.reduceLT, Nat.reduceEqDiff, Nat.reduceMul, Nat.reduceLeDiff, reduceIte, Nat.reduceBEq, reduceCtorEq, evP_D, evD_guard, evD_cons, evD_zero, evD_nil]
    · cases h
  · cases h
end Go.Proofs.YtdmkmbaaemhhhaaDoor
