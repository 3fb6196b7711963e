/-
  Entries, run by the machine: Check, and the reference's, which keeps a map.
-/
import Derived.Test.YtdmkmbaaemhhhaaDoorEnF
namespace Go.Proofs.YtdmkmbaaemhhhaaDoor
open Go Go.Ev Go.RowKit Go.Acc
set_option maxHeartbeats 4000000
set_option linter.unusedSimpArgs false
set_option linter.unusedVariables false
attribute [local go_sem] mutV getB mvB bkB V.mv V.mvL V.bk V.bkL Blk.mv Blk.bk posN nmN backN noDup app_writes setHL_nil setHL_cons postM_ret postM_normal resM hasB_nil hasB_cons St.mut names_nil names_cons sortV cellOf mkX_M mkX_S mkX_ln lnL_at ms0_mt ms0_st V.lone V.loneL List.zip_cons_cons List.zip_nil_left Option.isNone_none bornV subE partR unB bytesW boundsV ownP sliceW copyV clearV lenM takeV tk1 mapsV mkMapV hintOk lookV updV mapKE keyOk V.key app_lend callW_fn lendV postL_ret postL_normal postT_ret postT_normal takeR St.lent mkX_L bin_eql_vz bin_eql_zv bin_eql_rz bin_eql_zr bin_eql_zz bin_neq_vz bin_neq_zv bin_neq_rz bin_neq_zr bin_neq_zz eqH nilEq nonE plainI gOf_bool gOf_skip g_some g_none Int.ofNat_zero Int.cast_ofNat_Int Bool.false_and Bool.and_false sliceV noBox elemsZ V.scrub V.scrubL Blk.scrub appendV isSlice maxLen_eq leT List.contains_nil List.contains_cons nvL_at fzL_at fillV V.plain V.plainL Blk.plain List.size_toArray mapO_nil mapO_cons Option.isNone_some beqT beqF oI_not mkX_e phi_nil phi_cons bin_eql_bool bin_neq_bool bin_eql_agg bin_neq_agg eqV eqFs eqK_int eqK_bool' eqK_str mkX_T mkX_Φ mkX_n mkX_f mkX_d mkX_r nv0_at fz0_at evQ_dr evP_W evW_nil evW_cons evW_guard okW_eq tame_none tame_new tame_write wb_none wb_new wb_write okU_some offW_none offW_some touchOf V.noRef V.noRefL Option.isSome_some Option.isSome_none mild_none mild_new Option.getD_some Option.getD_none evQ_seq evQ_region evQ_block evQ_cond evQ_ret evQ_skip evQ_exit evO_cons evO_nil evO_guard freezeL_nil oS_some oS_none oS_ite oS_ite' oB_bool oI_true oI_false oE_normal oE_exit oE_ret bQ_normal bQ_ret bQ_exit lQ_normal lQ_ret lQ_exit List.zipIdx_cons List.zipIdx_nil List.map_cons List.map_nil evalOp opd_const opd_tmp opd_func ofC_int ofC_bool ofC_str ofC_nil app_none app_new app_write app_change putE_some putE_none setA_cons setA_nil setH_cons setH_nil mapA_cons mapA_nil look_cons look_nil e_mk h_mk drop_nil drop_mk keep_mk dstOk_some dstOk_none guardT_eq true_and and_true Bool.not_false Bool.not_true selB_true selB_false mem_nil mem_cons kpL_nil kpL_cons drL_nil drL_cons closed_mk V.refsIn V.refsInL Blk.refsIn List.all_cons List.all_nil lenV bin_add bin_sub bin_mul bin_quo bin_rem bin_eql bin_neq bin_lss bin_leq bin_gtr bin_geq un_neg un_not post_ret post_normal St.init Bool.false_eq_true List.length_map Bool.or_false Bool.or_true Bool.false_or Bool.true_or beq_self_eq_true Option.map_some Option.map_none Option.bind_some List.getElem?_cons_zero List.getElem?_cons_succ scalar stor isAggV V.cells List.cons_append List.nil_append if_true if_false wrap_of callV V.dataL V.data Bool.and_true Bool.true_and fresh names V.ren V.renL retV resV packL packV packC getBlks wrapR subV putV decide_true decide_false TK.agg List.length_cons List.length_nil List.take_succ_cons List.take_zero List.drop_succ_cons List.drop_zero List.take_nil List.drop_nil Nat.zero_add Nat.add_zero List.append_nil List.getElem?_nil elemsV ro ro0 ro1 roC ty1 ty2 ty3 ty4 ty5 ty6 ty7 ty8 ty9 ty10 ty11 ty12 ty13 ty14 ty15 ty16 ty17 ty18 ty19 ty21 ty22 ty23 ty24 ty26 ty27 ty28 ty29 ty30 ty31 ty32 ty33 ty34 ty35 ty36 ty37 ty38 ty39 ty40 ty41 ty42 ty44 ty45 ty47 ty49 ty51 ty53 ty54 ty55 ty56 ty57 ty58 ty59 ty60 ty61 ty62 ty63 ty64 ty65 ty66 ty67 ty68 ty69 ty70 ty71 ty72 ty73 ty74 ty75 ty76 ty77 ty78 ty79 ty80 ty81 ty82 ty83 ty84 ty85 ty86 ty87 ty88 ty89 ty90 ty92 ty93 ty94 ty95 ty96 ty97 ty98 ty99 ty100 ty101 ty102 ty103 ty104 ty105 ty107 ty108 ty109 ty110 ty111 ty112 ty113 ty114 ty115 ty116 ty117 ty118 ty119 ty123 ty124 ty125 ty126 ty127 ty128 ty129 ty130 ty131 ty132 ty133 ty135 ty136 ty137 ty138 ty139 ty141 ty142 ty143 ty144 ty146 ty147 ty148 ty149 ty153 ty154 ty155 ty156 ty157 ty158 ty159 ty160 ty161 eqs29 eqs61 eqs79 eqs94
/-- lines as a value: a row, or none -/
def rowAc : V → Option (List (ByteArray × Int))
  | .row 2 es => unAc es
  | .zero => some []
  | _ => none
theorem rowAc_row (l : List (ByteArray × Int)) : rowAc (.row 2 (l.map acV)) = some l := unAc_map l
theorem rowAc_rel {L : V} {l : List (ByteArray × Int)} (h : rowAc L = some l) {w : World} {ok : Nat → Prop} {val : Value} (hv : RelD w ok L val) : RelD w ok (.row 2 (l.map acV)) val := by
  unfold rowAc at h
  split at h
  · rw [← unAc_eq h]; exact hv
  · simp only [Option.some.injEq] at h
    subst h
    cases hv
    exact .nil _ _
  · cases h
def enV (key : ByteArray) (day : Int) (L : V) : V := .agg [.str key, .int .i64 day, L]
theorem enV_rel {key : ByteArray} {day : Int} {L : V} {l : List (ByteArray × Int)} (h : rowAc L = some l) {w : World} {ok : Nat → Prop} {val : Value} (hv : RelD w ok (enV key day L) val) : RelD w ok (enV key day (.row 2 (l.map acV))) val := by
  cases hv with
  | agg cs vs hl h1 hh =>
    refine .agg _ vs (by simpa using hl) h1 fun j c v hc hv => ?_
    match j with
    | 0 => exact hh 0 c v hc hv
    | 1 => exact hh 1 c v hc hv
    | 2 => simp at hc; subst hc; exact rowAc_rel h (hh 2 L v rfl hv)
    | j + 3 => simp at hc
theorem sound_by {P : Program} {J : World → Prop} {f : FuncId} {args args' : List V} {r : V} {bs : List Blk} (h : SoundAt P J f args' r bs) (hl : args.length = args'.length)
    (hr : ∀ (w : World) (ok : Nat → Prop) (j : Nat) c v, args[j]? = some c → RelD w ok c v → ∃ c', args'[j]? = some c' ∧ RelD w ok c' v) : SoundAt P J f args r bs := by
  refine ⟨h.1, fun w ok us hJ hok hlen hrel => h.2 w ok us hJ hok (by omega) fun j c v hc hv => ?_⟩
  have hlt : j < args.length := by have := (List.getElem?_eq_some_iff.1 hc).1; omega
  have hc0 : args[j]? = some args[j] := List.getElem?_eq_getElem hlt
  obtain ⟨c', hc', h'⟩ := hr w ok j _ v hc0 (hrel j _ v hc0 hv)
  rw [hc] at hc'
  cases hc'
  exact h'
def linesF : List V → Option (V × List Blk)
  | [L] => (rowAc L).map fun l => (.int .i64 (lnChk l), [])
  | _ => none
theorem lines_snd {J : World → Prop} (hJ : Stable J) : Snd Tryd.prog J 80 linesF := by
  intro args r bs h
  unfold linesF at h
  split at h
  · rename_i L
    simp only [Option.map_eq_some_iff] at h
    obtain ⟨l, hl, h⟩ := h
    obtain ⟨rfl, rfl⟩ := some_pair (congrArg some h)
    exact sound_by (lines_sound hJ l) rfl fun w ok j c v hc hv => by
      match j with
      | 0 => simp at hc; subst hc; exact ⟨_, rfl, rowAc_rel hl hv⟩
      | j + 1 => simp at hc
  · cases h
theorem echeck_sound {J : World → Prop} (hJ : Stable J) (key : ByteArray) (day : Int) (l : List (ByteArray × Int)) : SoundAt Tryd.prog J 49 [enV key day (.row 2 (l.map acV))] (.int .i64 (enE key day l)) [] := by
  have hL : linesF [.row 2 (l.map acV)] = some (.int .i64 (lnChk l), []) := by simp only [linesF, rowAc_row, Option.map_some]
  unfold enV
  refine evFn (l := [(64, keyF), (21, dayF), (80, linesF)]) (nv := nv0) (fz := fz0) (dr := dr49) (dd := dd49) (lam := []) (ms := ms0) ⟨key_snd hJ, is_snd hJ, lines_snd hJ, trivial⟩ hJ trivial ms0_ok Tryd.func49 rfl rfl (Nat.le_of_ble_eq_true rfl) (Nat.le_of_ble_eq_true rfl) drOk49 ?_
  dsimp only [Tryd.f49, dr49, dd49, Option.getD_some]
  refine ev_start ?_
  cases hk : keyOk' key with
  | false =>
    have e : enE key day l = 3 := by unfold enE; rw [if_pos hk]
    simp (disch := omega) only [keyF_eq, hk, e, go_sem, Int.reduceEq, Int.reduceLT, Int.reduceLE, Int.reduceNeg, Nat.reduceAdd, Nat.reduceLT, Nat.reduceEqDiff, Nat.reduceMul, Nat.reduceLeDiff, reduceIte, Nat.reduceBEq, reduceCtorEq, evP_D, evD_guard, evD_cons, evD_zero, evD_nil]
  | true =>
    by_cases hd : 0 ≤ day ∧ day ≤ 292193
    · have hd' : (decide (0 ≤ day ∧ day ≤ 292193)) = true := decide_eq_true hd
      have e : enE key day l = lnChk l := by unfold enE; rw [if_neg (by rw [hk]; simp), if_neg (fun h => h hd)]
      simp (disch := omega) only [keyF_eq, dayF_eq, hL, hk, hd', e, go_sem, Int.reduceEq, Int.reduceLT, Int.reduceLE, Int.reduceNeg, Nat.reduceAdd, Nat.reduceLT, Nat.reduceEqDiff, Nat.reduceMul, Nat.reduceLeDiff, reduceIte, Nat.reduceBEq, reduceCtorEq, evP_D, evD_guard, evD_cons, evD_zero, evD_nil]
    · have hd' : (decide (0 ≤ day ∧ day ≤ 292193)) = false := decide_eq_false hd
      have e : enE key day l = 1 := by unfold enE; rw [if_neg (by rw [hk]; simp), if_pos hd]
      simp (disch := omega) only [keyF_eq, dayF_eq, hk, hd', e, go_sem, Int.reduceEq, Int.reduceLT, Int.reduceLE, Int.reduceNeg, Nat.reduceAdd, Nat.reduceLT, Nat.reduceEqDiff, Nat.reduceMul, Nat.reduceLeDiff, reduceIte, Nat.reduceBEq, reduceCtorEq, evP_D, evD_guard, evD_cons, evD_zero, evD_nil]
def echeckF : List V → Option (V × List Blk)
  | [.agg [.str key, .int .i64 day, L]] => (rowAc L).map fun l => (.int .i64 (enE key day l), [])
  | _ => none
theorem echeckF_eq (key : ByteArray) (day : Int) (l : List (ByteArray × Int)) : echeckF [.agg [.str key, .int .i64 day, .row 2 (l.map acV)]] = some (.int .i64 (enE key day l), []) := by simp only [echeckF, rowAc_row, Option.map_some]
theorem echeck_snd {J : World → Prop} (hJ : Stable J) : Snd Tryd.prog J 49 echeckF := by
  intro args r bs h
  unfold echeckF at h
  split at h
  · rename_i key day L
    simp only [Option.map_eq_some_iff] at h
    obtain ⟨l, hl, h⟩ := h
    obtain ⟨rfl, rfl⟩ := some_pair (congrArg some h)
    exact sound_by (echeck_sound hJ key day l) rfl fun w ok j c v hc hv => by
      match j with
      | 0 => simp at hc; subst hc; exact ⟨_, rfl, enV_rel hl hv⟩
      | j + 1 => simp at hc
  · cases h
def setV (cs : List ByteArray) : List (V × V) := cs.map fun c => (.str c, .bool true)
theorem eqK_strs (x y : ByteArray) : eqK .str (.str x) (.str y) = some (decide (x = y)) := by
  rw [← str_eq]; rfl
theorem find_set (c : ByteArray) : ∀ cs : List ByteArray, findK .str (.str c) (setV cs) = some (if hasC c cs = true then some (.bool true) else none)
  | [] => rfl
  | x :: cs => by
    show (match eqK .str (.str c) (.str x) with | some true => _ | some false => _ | none => _) = _
    rw [eqK_strs]
    by_cases h : c = x
    · subst h; simp [hasC]
    · have h' : ¬ x = c := fun e => h e.symm
      simp only [decide_eq_false h]
      show findK .str (.str c) (setV cs) = _
      rw [find_set c cs]
      simp only [hasC, List.any_cons, decide_eq_false h', Bool.false_or]
      first | rfl | (split <;> rfl)
theorem upd_set (c : ByteArray) : ∀ cs : List ByteArray, hasC c cs = false → updK .str (.str c) (.bool true) (setV cs) = some (setV (cs ++ [c]))
  | [], _ => rfl
  | x :: cs, h => by
    have hx : ¬ x = c := fun e => by simp [hasC, e] at h
    have hr : hasC c cs = false := by
      simp only [hasC, List.any_cons, Bool.or_eq_false_iff] at h
      exact h.2
    show (match eqK .str (.str c) (.str x) with | some true => _ | some false => _ | none => _) = _
    rw [eqK_strs, decide_eq_false (fun e => hx e.symm)]
    show (updK .str (.str c) (.bool true) (setV cs)).map _ = _
    rw [upd_set c cs hr]
    rfl
theorem setV_len (cs : List ByteArray) : (setV cs).length = cs.length := by simp [setV]
end Go.Proofs.YtdmkmbaaemhhhaaDoor
