/-
  The lines of an entry, run by the machine.
-/
import Derived.Test.YtdmkmbaaemhhhaaDoorEnE
namespace Go.Acc
open Go
theorem lnSum_succ {l : List (ByteArray × Int)} {k : Nat} {c : ByteArray} {n : Int} (h : l[k]? = some (c, n)) : lnSum l (k + 1) = lnSum l k + n := by
  show lnSum l k + (l[k]?).elim 0 (·.2) = _
  rw [h]; rfl
theorem codes_succ {l : List (ByteArray × Int)} {k : Nat} {c : ByteArray} {n : Int} (h : l[k]? = some (c, n)) : codesTo l (k + 1) = codesTo l k ++ [c] := by
  have hlt : k < l.length := (List.getElem?_eq_some_iff.1 h).1
  have he : l[k] = (c, n) := (List.getElem?_eq_some_iff.1 h).2
  unfold codesTo
  rw [List.take_succ_eq_append_getElem hlt, he, List.map_append]
  rfl
theorem codes_len (l : List (ByteArray × Int)) {k : Nat} (h : k ≤ l.length) : (codesTo l k).length = k := by unfold codesTo; rw [List.length_map, List.length_take]; omega
theorem codes_any (l : List (ByteArray × Int)) (k : Nat) (c : ByteArray) : (l.take k).any (isC c) = hasC c (codesTo l k) := by
  unfold codesTo hasC
  rw [List.any_map]
  rfl
end Go.Acc
namespace Go.Proofs.YtdmkmbaaemhhhaaDoor
open Go Go.Ev Go.RowKit Go.Acc
set_option maxHeartbeats 4000000
set_option linter.unusedSimpArgs false
set_option linter.unusedVariables false
attribute [local go_sem] mutV getB mvB bkB V.mv V.mvL V.bk V.bkL Blk.mv Blk.bk posN nmN backN noDup app_writes setHL_nil setHL_cons postM_ret postM_normal resM hasB_nil hasB_cons St.mut names_nil names_cons sortV cellOf mkX_M mkX_S mkX_ln lnL_at ms0_mt ms0_st V.lone V.loneL List.zip_cons_cons List.zip_nil_left Option.isNone_none bornV subE partR unB bytesW boundsV ownP sliceW copyV clearV lenM takeV tk1 mapsV mkMapV hintOk lookV updV mapKE keyOk V.key app_lend callW_fn lendV postL_ret postL_normal postT_ret postT_normal takeR St.lent mkX_L bin_eql_vz bin_eql_zv bin_eql_rz bin_eql_zr bin_eql_zz bin_neq_vz bin_neq_zv bin_neq_rz bin_neq_zr bin_neq_zz eqH nilEq nonE plainI gOf_bool gOf_skip g_some g_none Int.ofNat_zero Int.cast_ofNat_Int Bool.false_and Bool.and_false sliceV noBox elemsZ V.scrub V.scrubL Blk.scrub appendV isSlice maxLen_eq leT List.contains_nil List.contains_cons nvL_at fzL_at fillV V.plain V.plainL Blk.plain List.size_toArray mapO_nil mapO_cons Option.isNone_some beqT beqF oI_not mkX_e phi_nil phi_cons bin_eql_bool bin_neq_bool bin_eql_agg bin_neq_agg eqV eqFs eqK_int eqK_bool' eqK_str mkX_T mkX_Φ mkX_n mkX_f mkX_d mkX_r nv0_at fz0_at evQ_dr evP_W evW_nil evW_cons evW_guard okW_eq tame_none tame_new tame_write wb_none wb_new wb_write okU_some offW_none offW_some touchOf V.noRef V.noRefL Option.isSome_some Option.isSome_none mild_none mild_new Option.getD_some Option.getD_none evQ_seq evQ_region evQ_block evQ_cond evQ_ret evQ_skip evQ_exit evO_cons evO_nil evO_guard freezeL_nil oS_some oS_none oS_ite oS_ite' oB_bool oI_true oI_false oE_normal oE_exit oE_ret bQ_normal bQ_ret bQ_exit lQ_normal lQ_ret lQ_exit List.zipIdx_cons List.zipIdx_nil List.map_cons List.map_nil evalOp opd_const opd_tmp opd_func ofC_int ofC_bool ofC_str ofC_nil app_none app_new app_write app_change putE_some putE_none setA_cons setA_nil setH_cons setH_nil mapA_cons mapA_nil look_cons look_nil e_mk h_mk drop_nil drop_mk keep_mk dstOk_some dstOk_none guardT_eq true_and and_true Bool.not_false Bool.not_true selB_true selB_false mem_nil mem_cons kpL_nil kpL_cons drL_nil drL_cons closed_mk V.refsIn V.refsInL Blk.refsIn List.all_cons List.all_nil lenV bin_add bin_sub bin_mul bin_quo bin_rem bin_eql bin_neq bin_lss bin_leq bin_gtr bin_geq un_neg un_not post_ret post_normal St.init Bool.false_eq_true List.length_map Bool.or_false Bool.or_true Bool.false_or Bool.true_or beq_self_eq_true Option.map_some Option.map_none Option.bind_some List.getElem?_cons_zero List.getElem?_cons_succ scalar stor isAggV V.cells List.cons_append List.nil_append if_true if_false wrap_of callV V.dataL V.data Bool.and_true Bool.true_and fresh names V.ren V.renL retV resV packL packV packC getBlks wrapR subV putV decide_true decide_false TK.agg List.length_cons List.length_nil List.take_succ_cons List.take_zero List.drop_succ_cons List.drop_zero List.take_nil List.drop_nil Nat.zero_add Nat.add_zero List.append_nil List.getElem?_nil elemsV ro ro0 ro1 roC ty1 ty2 ty3 ty4 ty5 ty6 ty7 ty8 ty9 ty10 ty11 ty12 ty13 ty14 ty15 ty16 ty17 ty18 ty19 ty21 ty22 ty23 ty24 ty26 ty27 ty28 ty29 ty30 ty31 ty32 ty33 ty34 ty35 ty36 ty37 ty38 ty39 ty40 ty41 ty42 ty44 ty45 ty47 ty49 ty51 ty53 ty54 ty55 ty56 ty57 ty58 ty59 ty60 ty61 ty62 ty63 ty64 ty65 ty66 ty67 ty68 ty69 ty70 ty71 ty72 ty73 ty74 ty75 ty76 ty77 ty78 ty79 ty80 ty81 ty82 ty83 ty84 ty85 ty86 ty87 ty88 ty89 ty90 ty92 ty93 ty94 ty95 ty96 ty97 ty98 ty99 ty100 ty101 ty102 ty103 ty104 ty105 ty107 ty108 ty109 ty110 ty111 ty112 ty113 ty114 ty115 ty116 ty117 ty118 ty119 ty123 ty124 ty125 ty126 ty127 ty128 ty129 ty130 ty131 ty132 ty133 ty135 ty136 ty137 ty138 ty139 ty141 ty142 ty143 ty144 ty146 ty147 ty148 ty149 ty153 ty154 ty155 ty156 ty157 ty158 ty159 ty160 ty161 eqs29 eqs61 eqs79 eqs94
theorem indexL_sound {J : World → Prop} (hJ : Stable J) (g : FuncId) (cs : List V) (G : List V → Option (V × List Blk)) (hG : Snd Tryd.prog J g G) (hd : V.dataL cs = true) (p : ByteArray × Int → Bool) (l : List (ByteArray × Int)) (hp : ∀ n ∈ l, G (acV n :: cs) = some (.bool (p n), [])) :
    SoundAt Tryd.prog J 107 [.row 2 (l.map acV), .fn g cs] (.int .i64 (if l.any p = true then ((l.findIdx p : Nat) : Int) else -1)) [] := by
  refine SoundAt.row 0 rfl (callOk Tryd.func107 rfl rfl) fun hlen => ?_
  simp only [maxLen, List.length_map] at hlen
  refine evFn (l := [(g, G)]) (nv := nv0) (fz := fz0) (dr := dr107) (dd := dd107) (lam := []) (ms := ms0) ⟨hG, trivial⟩ hJ trivial ms0_ok Tryd.func107 rfl rfl (Nat.le_of_ble_eq_true rfl) (Nat.le_of_ble_eq_true rfl) drOk107 ?_
  dsimp only [Tryd.f107, dr107, dd107, Option.getD_some]
  refine ev_start ?_
  simp (disch := omega) only [go_sem, Int.reduceEq, Int.reduceLT, Int.reduceLE, Int.reduceNeg, Nat.reduceAdd, Nat.reduceLT, Nat.reduceEqDiff, Nat.reduceMul, Nat.reduceLeDiff, reduceIte, Nat.reduceBEq, reduceCtorEq, evP_D, evD_guard, evD_cons, evD_zero, evD_nil]
  refine evQ_loop [0, 1, 7, 8] [] (fun σ => ∃ k : Nat, (k ≤ l.length ∧ ∀ i (h : i < l.length), i < k → p l[i] = false) ∧ σ = ⟨[(0, .row 2 (l.map acV)), (1, .fn g cs), (7, .int .i64 l.length), (8, .int .i64 k)], []⟩) (fun σ => l.length - (match Ev.look 8 σ.env with | some (.int _ n) => n.toNat | _ => 0)) ?_ ?_
  · simp only [go_sem, Int.reduceEq, Int.reduceLT, Int.reduceLE, Int.reduceNeg, Nat.reduceAdd, Nat.reduceLT, Nat.reduceEqDiff, Nat.reduceMul, Nat.reduceLeDiff, reduceIte, Nat.reduceBEq, reduceCtorEq, evP_D, evD_guard, evD_cons, evD_zero, evD_nil]
    exact ⟨refsInL_data hd, 0, ⟨Nat.zero_le _, fun _ _ h => by omega⟩, rfl⟩
  · rintro σ ⟨k, ⟨hk, hall⟩, rfl⟩
    by_cases hlt : k < l.length
    · have hlt' : (k : Int) < l.length := by omega
      have hg : (l.map acV)[k]? = some (.agg [.str l[k].1, .int .i64 l[k].2]) := acV_get (c := l[k].1) (n := l[k].2) (List.getElem?_eq_getElem hlt)
      have hpk := hp l[k] (List.getElem_mem hlt)
      simp only [acV] at hpk
      cases hb : p l[k] with
      | true =>
        rw [hb] at hpk
        have hany : l.any p = true := List.any_eq_true.2 ⟨l[k], List.getElem_mem hlt, hb⟩
        have hidx : l.findIdx p = k := (List.findIdx_eq hlt).2 ⟨hb, fun j hj => hall j (by omega) hj⟩
        simp (disch := (first | omega | assumption)) only [hlt', idx_nat, List.length_map, hg, hpk, hd, V.dataL, V.data, hany, hidx, go_sem, Int.reduceEq, Int.reduceLT, Int.reduceLE, Int.reduceNeg, Nat.reduceAdd, Nat.reduceLT, Nat.reduceEqDiff, Nat.reduceMul, Nat.reduceLeDiff, reduceIte, Nat.reduceBEq, reduceCtorEq, evP_D, evD_guard, evD_cons, evD_zero, evD_nil]
      | false =>
        rw [hb] at hpk
        simp (disch := (first | omega | assumption)) only [hlt', idx_nat, List.length_map, hg, hpk, hd, refsInL_data hd, scrubL_data hd, V.dataL, V.data, go_sem, Int.reduceEq, Int.reduceLT, Int.reduceLE, Int.reduceNeg, Nat.reduceAdd, Nat.reduceLT, Nat.reduceEqDiff, Nat.reduceMul, Nat.reduceLeDiff, reduceIte, Nat.reduceBEq, reduceCtorEq, evP_D, evD_guard, evD_cons, evD_zero, evD_nil]
        exact ⟨⟨k + 1, ⟨hlt, fun i hi hik => by
          by_cases e : i = k
          · subst e; exact hb
          · exact hall i hi (by omega)⟩, rfl⟩, by show l.length - ((k : Int) + 1).toNat < l.length - (k : Int).toNat; omega⟩
    · have hk' : k = l.length := by omega
      subst hk'
      have hlt' : ¬ ((l.length : Int) < l.length) := by omega
      have hany : l.any p = false := by
        rw [List.any_eq_false]
        intro x hx
        obtain ⟨i, hi, rfl⟩ := List.mem_iff_getElem.1 hx
        simp [hall i hi hi]
      simp (disch := (first | omega | assumption)) only [hlt', hany, go_sem, Int.reduceEq, Int.reduceLT, Int.reduceLE, Int.reduceNeg, Nat.reduceAdd, Nat.reduceLT, Nat.reduceEqDiff, Nat.reduceMul, Nat.reduceLeDiff, reduceIte, Nat.reduceBEq, reduceCtorEq, evP_D, evD_guard, evD_cons, evD_zero, evD_nil]
theorem containsL_sound {J : World → Prop} (hJ : Stable J) (g : FuncId) (cs : List V) (G : List V → Option (V × List Blk)) (hG : Snd Tryd.prog J g G) (hd : V.dataL cs = true) (p : ByteArray × Int → Bool) (l : List (ByteArray × Int)) (hp : ∀ n ∈ l, G (acV n :: cs) = some (.bool (p n), [])) :
    SoundAt Tryd.prog J 81 [.row 2 (l.map acV), .fn g cs] (.bool (l.any p)) [] := by
  have hS := indexL_sound hJ g cs G hG hd p l hp
  refine evFn (l := [(107, at1 [.row 2 (l.map acV), .fn g cs] (.int .i64 (if l.any p = true then ((l.findIdx p : Nat) : Int) else -1), []))]) (nv := nv0) (fz := fz0) (dr := dr81) (dd := dd81) (lam := []) (ms := ms0) ⟨at1_snd hS, trivial⟩ hJ trivial ms0_ok Tryd.func81 rfl rfl (Nat.le_of_ble_eq_true rfl) (Nat.le_of_ble_eq_true rfl) drOk81 ?_
  dsimp only [Tryd.f81, dr81, dd81, Option.getD_some]
  refine ev_start ?_
  cases hb : l.any p with
  | true =>
    have h1 : (0 : Int) ≤ ((l.findIdx p : Nat) : Int) := by omega
    simp (disch := omega) only [at1_eq, h1, hd, hb, V.dataL, V.data, go_sem, Int.reduceEq, Int.reduceLT, Int.reduceLE, Int.reduceNeg, Nat.reduceAdd, Nat.reduceLT, Nat.reduceEqDiff, Nat.reduceMul, Nat.reduceLeDiff, reduceIte, Nat.reduceBEq, reduceCtorEq, evP_D, evD_guard, evD_cons, evD_zero, evD_nil]
  | false =>
    have h2 : ¬ (0 ≤ (-1 : Int)) := by omega
    simp (disch := omega) only [at1_eq, h2, hd, hb, V.dataL, V.data, go_sem, Int.reduceEq, Int.reduceLT, Int.reduceLE, Int.reduceNeg, Nat.reduceAdd, Nat.reduceLT, Nat.reduceEqDiff, Nat.reduceMul, Nat.reduceLeDiff, reduceIte, Nat.reduceBEq, reduceCtorEq, evP_D, evD_guard, evD_cons, evD_zero, evD_nil]
def ln1F : List V → Option (V × List Blk)
  | [.agg [.str c, .int .i64 n], .rd (.agg [.str code, .int .i64 m]) 0] => some (.bool (isC code (c, n)), [])
  | _ => none
theorem ln1_snd {J : World → Prop} (hJ : Stable J) : Snd Tryd.prog J 106 ln1F := by
  intro args r bs h
  unfold ln1F at h
  split at h
  · rename_i c n code m
    obtain ⟨rfl, rfl⟩ := some_pair h
    refine evFn (l := []) (nv := nv0) (fz := fz0) (dr := dr106) (dd := dd106) (lam := []) (ms := ms0) trivial hJ trivial ms0_ok Tryd.func106 rfl rfl (Nat.le_of_ble_eq_true rfl) (Nat.le_of_ble_eq_true rfl) drOk106 ?_
    dsimp only [Tryd.f106, dr106, dd106, Option.getD_some]
    refine ev_start ?_
    simp (disch := omega) only [bin_eql_str, isC, go_sem, Int.reduceEq, Int.reduceLT, Int.reduceLE, Int.reduceNeg, Nat.reduceAdd, Nat.reduceLT, Nat.reduceEqDiff, Nat.reduceMul, Nat.reduceLeDiff, reduceIte, Nat.reduceBEq, reduceCtorEq, evP_D, evD_guard, evD_cons, evD_zero, evD_nil]
  · cases h
/-- whether a code stands among lines: of a row and a function that holds a line -/
noncomputable def ctF : List V → Option (V × List Blk)
  | [.row 2 es, .fn f [.rd (.agg [.str code, .int .i64 m]) 0]] => if f = 106 then (unAc es).map fun l => (.bool (l.any (isC code)), []) else none
  | _ => none
theorem ctF_eq (l : List (ByteArray × Int)) (code : ByteArray) (m : Int) : ctF [.row 2 (l.map acV), .fn 106 [.rd (.agg [.str code, .int .i64 m]) 0]] = some (.bool (l.any (isC code)), []) := by simp only [ctF, unAc_map, Option.map_some, if_true]
theorem ct_snd {J : World → Prop} (hJ : Stable J) : Snd Tryd.prog J 81 ctF := by
  intro args r bs h
  unfold ctF at h
  split at h
  · rename_i es f code m
    split at h
    · rename_i hf
      subst hf
      simp only [Option.map_eq_some_iff] at h
      obtain ⟨l, hl, h⟩ := h
      obtain ⟨rfl, rfl⟩ := some_pair (congrArg some h)
      rw [unAc_eq hl]
      exact containsL_sound hJ _ _ ln1F (ln1_snd hJ) rfl (isC code) l fun _ _ => rfl
    · cases h
  · cases h
set_option maxHeartbeats 4000000 in
theorem lines_sound {J : World → Prop} (hJ : Stable J) (l : List (ByteArray × Int)) : SoundAt Tryd.prog J 80 [.row 2 (l.map acV)] (.int .i64 (lnChk l)) [] := by
  refine SoundAt.row 0 rfl (callOk Tryd.func80 rfl rfl) fun hlen => ?_
  simp only [maxLen, List.length_map] at hlen
  refine evFn (l := [(66, codeF), (105, moneyF), (81, ctF)]) (nv := nv0) (fz := fz0) (dr := dr80) (dd := dd80) (lam := []) (ms := ms0) ⟨code_snd hJ, spmoney_snd hJ, ct_snd hJ, trivial⟩ hJ trivial ms0_ok Tryd.func80 rfl rfl (Nat.le_of_ble_eq_true rfl) (Nat.le_of_ble_eq_true rfl) drOk80 ?_
  dsimp only [Tryd.f80, dr80, dd80, Option.getD_some]
  refine ev_start ?_
  by_cases h3 : 12 < l.length
  · have h3' : (12 : Int) < l.length := by omega
    have e : lnChk l = 2 := by unfold lnChk; rw [if_pos h3]
    simp (disch := omega) only [h3', e, go_sem, Int.reduceEq, Int.reduceLT, Int.reduceLE, Int.reduceNeg, Nat.reduceAdd, Nat.reduceLT, Nat.reduceEqDiff, Nat.reduceMul, Nat.reduceLeDiff, reduceIte, Nat.reduceBEq, reduceCtorEq, evP_D, evD_guard, evD_cons, evD_zero, evD_nil]
  have h3' : ¬ (12 : Int) < l.length := by omega
  obtain ⟨R, hR⟩ : ∃ R, R = lnE [] l := ⟨_, rfl⟩
  have e : lnChk l = if R ≠ 0 then R else if l.length < 2 ∨ lnSum l l.length ≠ 0 then 7 else 0 := by unfold lnChk; rw [if_neg h3, hR]
  rw [e]
  simp (disch := omega) only [h3', go_sem, Int.reduceEq, Int.reduceLT, Int.reduceLE, Int.reduceNeg, Nat.reduceAdd, Nat.reduceLT, Nat.reduceEqDiff, Nat.reduceMul, Nat.reduceLeDiff, reduceIte, Nat.reduceBEq, reduceCtorEq, evP_D, evD_guard, evD_cons, evD_zero, evD_nil]
  refine evQ_loop [0, 3, 9, 10, 11] [] (fun σ => ∃ (k : Nat), (k ≤ l.length ∧ R = lnE (codesTo l k) (l.drop k) ∧ -(k * 1000000000000) ≤ lnSum l k ∧ lnSum l k ≤ k * 1000000000000) ∧ σ = ⟨[(0, .row 2 (l.map acV)), (3, .int .i64 (lnSum l k)), (9, .row 2 (l.map acV)), (10, .int .i64 l.length), (11, .int .i64 k)], []⟩)
    (fun σ => l.length - (match Ev.look 11 σ.env with | some (.int _ n) => n.toNat | _ => 0)) ?_ ?_
  · simp only [go_sem, Int.reduceEq, Int.reduceLT, Int.reduceLE, Int.reduceNeg, Nat.reduceAdd, Nat.reduceLT, Nat.reduceEqDiff, Nat.reduceMul, Nat.reduceLeDiff, reduceIte, Nat.reduceBEq, reduceCtorEq, evP_D, evD_guard, evD_cons, evD_zero, evD_nil]
    exact ⟨0, ⟨Nat.zero_le _, hR, by simp [lnSum], by simp [lnSum]⟩, rfl⟩
  · rintro σ ⟨k, ⟨hk, hall, hs1, hs2⟩, rfl⟩
    by_cases hlt : k < l.length
    · have hlt' : (k : Int) < l.length := by omega
      obtain ⟨⟨c, n⟩, hcn⟩ : ∃ p, l[k]? = some p := ⟨_, List.getElem?_eq_getElem hlt⟩
      have hg := acV_get hcn
      have hsum := lnSum_succ hcn
      rw [lnE_drop hcn] at hall
      have hms : l.length - ((k : Int) + 1).toNat < l.length - (k : Int).toNat := by
        have e3 : ((k : Int) + 1).toNat = k + 1 := by omega
        rw [e3, Int.toNat_natCast]; exact Nat.sub_lt_sub_left hlt (Nat.lt_succ_self k)
      have fin : ∀ x : Int, x ≠ 0 → R = x → (if R ≠ 0 then R else if l.length < 2 ∨ lnSum l l.length ≠ 0 then 7 else 0) = x := fun x hx hr => by rw [hr, if_pos hx]
      cases hc : codeOk c with
      | false =>
        have hv := fin 3 (by omega) (by rw [hall, if_pos hc])
        rw [hv]
        simp (disch := (first | omega | assumption)) only [hlt', idx_nat, List.length_map, hg, codeF_eq, hc, go_sem, Int.reduceEq, Int.reduceLT, Int.reduceLE, Int.reduceNeg, Nat.reduceAdd, Nat.reduceLT, Nat.reduceEqDiff, Nat.reduceMul, Nat.reduceLeDiff, reduceIte, Nat.reduceBEq, reduceCtorEq, evP_D, evD_guard, evD_cons, evD_zero, evD_nil]
      | true =>
        rw [if_neg (by rw [hc]; simp)] at hall
        by_cases hn : -1000000000000 ≤ n ∧ n ≤ 1000000000000
        · have hn' : (decide (-1000000000000 ≤ n ∧ n ≤ 1000000000000)) = true := decide_eq_true hn
          by_cases hz : n = 0
          · have hv := fin 1 (by omega) (by rw [hall, if_pos (fun h => h.2 hz)])
            rw [hv]
            simp (disch := (first | omega | assumption)) only [hlt', idx_nat, List.length_map, hg, codeF_eq, moneyF_eq, hc, hn', hz, go_sem, Int.reduceEq, Int.reduceLT, Int.reduceLE, Int.reduceNeg, Nat.reduceAdd, Nat.reduceLT, Nat.reduceEqDiff, Nat.reduceMul, Nat.reduceLeDiff, reduceIte, Nat.reduceBEq, reduceCtorEq, evP_D, evD_guard, evD_cons, evD_zero, evD_nil]
          · rw [if_neg (fun h => h ⟨hn, hz⟩)] at hall
            have hcont := codes_any l k c
            have hmap : (l.map acV).take k = (l.take k).map acV := List.map_take.symm
            have hct := ctF_eq (l.take k) c n
            rw [← hmap] at hct
            have hk0 : 0 ≤ (k : Int) ∧ (k : Int) ≤ l.length := by omega
            cases hcs : hasC c (codesTo l k) with
            | true =>
              rw [hcs] at hcont
              rw [hcont] at hct
              have hv := fin 5 (by omega) (by rw [hall, if_pos hcs])
              rw [hv]
              simp (disch := (first | omega | assumption)) only [hlt', idx_nat, List.length_map, hg, codeF_eq, moneyF_eq, hc, hn', hz, hk0, hct, and_self, Int.toNat_natCast, List.mapM_cons, List.mapM_nil, Option.bind_eq_bind, Option.pure_def, Option.bind_some, go_sem, Int.reduceEq, Int.reduceLT, Int.reduceLE, Int.reduceNeg, Nat.reduceAdd, Nat.reduceLT, Nat.reduceEqDiff, Nat.reduceMul, Nat.reduceLeDiff, reduceIte, Nat.reduceBEq, reduceCtorEq, evP_D, evD_guard, evD_cons, evD_zero, evD_nil]
            | false =>
              rw [hcs] at hcont
              rw [hcont] at hct
              rw [if_neg (by rw [hcs]; simp)] at hall
              simp (disch := (first | omega | assumption)) only [hlt', idx_nat, List.length_map, hg, codeF_eq, moneyF_eq, hc, hn', hz, hk0, hct, and_self, Int.toNat_natCast, List.mapM_cons, List.mapM_nil, Option.bind_eq_bind, Option.pure_def, Option.bind_some, go_sem, Int.reduceEq, Int.reduceLT, Int.reduceLE, Int.reduceNeg, Nat.reduceAdd, Nat.reduceLT, Nat.reduceEqDiff, Nat.reduceMul, Nat.reduceLeDiff, reduceIte, Nat.reduceBEq, reduceCtorEq, evP_D, evD_guard, evD_cons, evD_zero, evD_nil]
              exact ⟨⟨k + 1, ⟨hlt, hall, by rw [hsum]; omega, by rw [hsum]; omega⟩, by rw [hsum]; rfl⟩, hms⟩
        · have hn' : (decide (-1000000000000 ≤ n ∧ n ≤ 1000000000000)) = false := decide_eq_false hn
          have hv := fin 1 (by omega) (by rw [hall, if_pos (fun h => hn h.1)])
          rw [hv]
          simp (disch := (first | omega | assumption)) only [hlt', idx_nat, List.length_map, hg, codeF_eq, moneyF_eq, hc, hn', go_sem, Int.reduceEq, Int.reduceLT, Int.reduceLE, Int.reduceNeg, Nat.reduceAdd, Nat.reduceLT, Nat.reduceEqDiff, Nat.reduceMul, Nat.reduceLeDiff, reduceIte, Nat.reduceBEq, reduceCtorEq, evP_D, evD_guard, evD_cons, evD_zero, evD_nil]
    · have hk' : k = l.length := by omega
      subst hk'
      have hlt' : ¬ ((l.length : Int) < l.length) := by omega
      have e0 : R = 0 := by rw [hall, List.drop_length]; rfl
      rw [e0, if_neg (by simp)]
      by_cases h2 : l.length < 2
      · have h2' : (l.length : Int) < 2 := by omega
        simp (disch := (first | omega | assumption)) only [hlt', h2, h2', true_or, go_sem, Int.reduceEq, Int.reduceLT, Int.reduceLE, Int.reduceNeg, Nat.reduceAdd, Nat.reduceLT, Nat.reduceEqDiff, Nat.reduceMul, Nat.reduceLeDiff, reduceIte, Nat.reduceBEq, reduceCtorEq, evP_D, evD_guard, evD_cons, evD_zero, evD_nil]
      · have h2' : ¬ (l.length : Int) < 2 := by omega
        by_cases hz : lnSum l l.length = 0
        · simp (disch := (first | omega | assumption)) only [hlt', h2, h2', hz, ne_eq, not_true, or_self, go_sem, Int.reduceEq, Int.reduceLT, Int.reduceLE, Int.reduceNeg, Nat.reduceAdd, Nat.reduceLT, Nat.reduceEqDiff, Nat.reduceMul, Nat.reduceLeDiff, reduceIte, Nat.reduceBEq, reduceCtorEq, evP_D, evD_guard, evD_cons, evD_zero, evD_nil]
        · simp (disch := (first | omega | assumption)) only [hlt', h2, h2', hz, ne_eq, not_false_eq_true, or_true, go_sem, Int.reduceEq, Int.reduceLT, Int.reduceLE, Int.reduceNeg, Nat.reduceAdd, Nat.reduceLT, Nat.reduceEqDiff, Nat.reduceMul, Nat.reduceLeDiff, reduceIte, Nat.reduceBEq, reduceCtorEq, evP_D, evD_guard, evD_cons, evD_zero, evD_nil]
theorem linesF_snd {J : World → Prop} (hJ : Stable J) : True := trivial
end Go.Proofs.YtdmkmbaaemhhhaaDoor
