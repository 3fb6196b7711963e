/-
  Keys and parts of plans, run by the machine.
-/
import Derived.Test.YtdmkmbaaemhhhaaDoorJobG
import Derived.Test.YtdmkmbaaemhhhaaDoorLnE
import Derived.Test.YtdmkmbaaemhhhaaDoorDecE
namespace Go.Proofs.YtdmkmbaaemhhhaaDoor
open Go Go.Ev Go.RowKit Go.Job Go.Acc
set_option maxHeartbeats 4000000
set_option linter.unusedSimpArgs false
set_option linter.unusedVariables false
attribute [local go_sem] mutV getB mvB bkB V.mv V.mvL V.bk V.bkL Blk.mv Blk.bk posN nmN backN noDup app_writes setHL_nil setHL_cons postM_ret postM_normal resM hasB_nil hasB_cons St.mut names_nil names_cons sortV cellOf mkX_M mkX_S mkX_ln lnL_at ms0_mt ms0_st V.lone V.loneL List.zip_cons_cons List.zip_nil_left Option.isNone_none bornV subE partR unB bytesW boundsV ownP sliceW copyV clearV lenM takeV tk1 mapsV mkMapV hintOk lookV updV mapKE keyOk V.key app_lend callW_fn lendV postL_ret postL_normal postT_ret postT_normal takeR St.lent mkX_L bin_eql_vz bin_eql_zv bin_eql_rz bin_eql_zr bin_eql_zz bin_neq_vz bin_neq_zv bin_neq_rz bin_neq_zr bin_neq_zz eqH nilEq nonE plainI gOf_bool gOf_skip g_some g_none Int.ofNat_zero Int.cast_ofNat_Int Bool.false_and Bool.and_false sliceV noBox elemsZ V.scrub V.scrubL Blk.scrub appendV isSlice maxLen_eq leT List.contains_nil List.contains_cons nvL_at fzL_at fillV V.plain V.plainL Blk.plain List.size_toArray mapO_nil mapO_cons Option.isNone_some beqT beqF oI_not mkX_e phi_nil phi_cons bin_eql_bool bin_neq_bool bin_eql_agg bin_neq_agg eqV eqFs eqK_int eqK_bool' eqK_str mkX_T mkX_Φ mkX_n mkX_f mkX_d mkX_r nv0_at fz0_at evQ_dr evP_W evW_nil evW_cons evW_guard okW_eq tame_none tame_new tame_write wb_none wb_new wb_write okU_some offW_none offW_some touchOf V.noRef V.noRefL Option.isSome_some Option.isSome_none mild_none mild_new Option.getD_some Option.getD_none evQ_seq evQ_region evQ_block evQ_cond evQ_ret evQ_skip evQ_exit evO_cons evO_nil evO_guard freezeL_nil oS_some oS_none oS_ite oS_ite' oB_bool oI_true oI_false oE_normal oE_exit oE_ret bQ_normal bQ_ret bQ_exit lQ_normal lQ_ret lQ_exit List.zipIdx_cons List.zipIdx_nil List.map_cons List.map_nil evalOp opd_const opd_tmp opd_func ofC_int ofC_bool ofC_str ofC_nil app_none app_new app_write app_change putE_some putE_none setA_cons setA_nil setH_cons setH_nil mapA_cons mapA_nil look_cons look_nil e_mk h_mk drop_nil drop_mk keep_mk dstOk_some dstOk_none guardT_eq true_and and_true Bool.not_false Bool.not_true selB_true selB_false mem_nil mem_cons kpL_nil kpL_cons drL_nil drL_cons closed_mk V.refsIn V.refsInL Blk.refsIn List.all_cons List.all_nil lenV bin_add bin_sub bin_mul bin_quo bin_rem bin_eql bin_neq bin_lss bin_leq bin_gtr bin_geq un_neg un_not post_ret post_normal St.init Bool.false_eq_true List.length_map Bool.or_false Bool.or_true Bool.false_or Bool.true_or beq_self_eq_true Option.map_some Option.map_none Option.bind_some List.getElem?_cons_zero List.getElem?_cons_succ scalar stor isAggV V.cells List.cons_append List.nil_append if_true if_false wrap_of callV V.dataL V.data Bool.and_true Bool.true_and fresh names V.ren V.renL retV resV packL packV packC getBlks wrapR subV putV decide_true decide_false TK.agg List.length_cons List.length_nil List.take_succ_cons List.take_zero List.drop_succ_cons List.drop_zero List.take_nil List.drop_nil Nat.zero_add Nat.add_zero List.append_nil List.getElem?_nil elemsV ro ro0 ro1 roC ty1 ty2 ty3 ty4 ty5 ty6 ty7 ty8 ty9 ty10 ty11 ty12 ty13 ty14 ty15 ty16 ty17 ty18 ty19 ty21 ty22 ty23 ty24 ty26 ty27 ty28 ty29 ty30 ty31 ty32 ty33 ty34 ty35 ty36 ty37 ty38 ty39 ty40 ty41 ty42 ty44 ty45 ty47 ty49 ty51 ty53 ty54 ty55 ty56 ty57 ty58 ty59 ty60 ty61 ty62 ty63 ty64 ty65 ty66 ty67 ty68 ty69 ty70 ty71 ty72 ty73 ty74 ty75 ty76 ty77 ty78 ty79 ty80 ty81 ty82 ty83 ty84 ty85 ty86 ty87 ty88 ty89 ty90 ty92 ty93 ty94 ty95 ty96 ty97 ty98 ty99 ty100 ty101 ty102 ty103 ty104 ty105 ty107 ty108 ty109 ty110 ty111 ty112 ty113 ty114 ty115 ty116 ty117 ty118 ty119 ty123 ty124 ty125 ty126 ty127 ty128 ty129 ty130 ty131 ty132 ty133 ty135 ty136 ty137 ty138 ty139 ty141 ty142 ty143 ty144 ty146 ty147 ty148 ty149 ty153 ty154 ty155 ty156 ty157 ty158 ty159 ty160 ty161 eqs29 eqs61 eqs79 eqs94
theorem u8w {x : Int} (h : 0 ≤ x ∧ x ≤ 255) : IntKind.u8.wrap x = x := by simp [IntKind.wrap, IntKind.bits, IntKind.signed]; omega
theorem u8_nat (a : Nat) : UInt8.ofNat (48 + (a : Int)).toNat = (48 + a).toUInt8 := by rw [show (48 + (a : Int)).toNat = 48 + a by omega]
theorem digB_fin : ∀ n : Fin 10, digB n.val = ⟨#[(48 + n.val).toUInt8]⟩ := by decide +kernel
theorem digB_eq {n : Nat} (h : n < 10) : digB n = ⟨#[(48 + n).toUInt8]⟩ := digB_fin ⟨n, h⟩
theorem dig2_eq {k : Nat} (h : k < 100) : digB (k / 10) ++ digB (k % 10) = dig2 k := by
  rw [digB_eq (show k / 10 < 10 by omega), digB_eq (show k % 10 < 10 by omega)]
  rfl
theorem size_cat (x y : ByteArray) : (x ++ y).size = x.size + y.size := ByteArray.size_append
theorem size_dash : ByteArray.size (⟨#[45]⟩ : ByteArray) = 1 := rfl
theorem size_dig2 (k : Nat) : (dig2 k).size = 2 := rfl
theorem size_digB {n : Nat} (h : n < 10) : (digB n).size = 1 := by rw [digB_eq h]; rfl
theorem partL_len {p : Pl} (h : 1 ≤ p.num ∧ p.num ≤ 40) : ((partL p).length : Int) = p.num := by
  unfold partL
  rw [steps_len]
  omega
theorem partF_1 {p : Pl} (h : p.kind = 1) : partF p = lnD p.amt p.num := by funext k; unfold partF; rw [if_pos h]
theorem partF_0 {p : Pl} (h : ¬ p.kind = 1) : partF p = lnS p.amt p.num := by funext k; unfold partF; rw [if_neg h]
theorem jparts_sound {J : World → Prop} (hJ : Stable J) (p : Pl) (h : PlOk keyOk' codeOk p) : SoundAt Tryd.prog J 22 [plV p] (.vec 0) [.vec 3 1 ((partL p).map (V.int .i64))] := by
  obtain ⟨n, hn⟩ : ∃ n : Nat, p.num = n := ⟨p.num.toNat, by have := h.num; omega⟩
  have hb := h.num
  have ha := h.amt
  have hk := h.kind
  have hD := digits_sound hJ p.amt 0 n (by omega) (by omega) (by omega) (by omega) (by omega)
  have hS := straight_sound hJ p.amt 0 n (by omega) (by omega) (by omega) (by omega) (by omega)
  rw [Int.sub_zero] at hD hS
  unfold plV
  by_cases h1 : p.kind = 1
  · have e : partL p = steps (lnD p.amt n) n := by unfold partL; rw [partF_1 h1, hn, Int.toNat_natCast]
    rw [e]
    refine evFn (l := [(52, at1 _ (_, [.vec 3 1 ((steps (lnD p.amt n) n).map (V.int .i64))]))]) (nv := nv0) (fz := fz0) (dr := dr22) (dd := dd22) (lam := []) (ms := ms0) ⟨at1_snd hD, trivial⟩ hJ trivial ms0_ok Tryd.func22 rfl rfl (Nat.le_of_ble_eq_true rfl) (Nat.le_of_ble_eq_true rfl) drOk22 ?_
    dsimp only [Tryd.f22, dr22, dd22, Option.getD_some]
    refine ev_start ?_
    simp (disch := omega) only [at1_eq, h1, hn, go_sem, Int.reduceEq, Int.reduceLT, Int.reduceLE, Int.reduceNeg, Nat.reduceAdd, Nat.reduceLT, Nat.reduceEqDiff, Nat.reduceMul, Nat.reduceLeDiff, reduceIte, Nat.reduceBEq, reduceCtorEq, evP_D, evD_guard, evD_cons, evD_zero, evD_nil]
  · have e : partL p = steps (lnS p.amt n) n := by unfold partL; rw [partF_0 h1, hn, Int.toNat_natCast]
    rw [e]
    refine evFn (l := [(53, at1 _ (_, [.vec 3 1 ((steps (lnS p.amt n) n).map (V.int .i64))]))]) (nv := nv0) (fz := fz0) (dr := dr22) (dd := dd22) (lam := []) (ms := ms0) ⟨at1_snd hS, trivial⟩ hJ trivial ms0_ok Tryd.func22 rfl rfl (Nat.le_of_ble_eq_true rfl) (Nat.le_of_ble_eq_true rfl) drOk22 ?_
    dsimp only [Tryd.f22, dr22, dd22, Option.getD_some]
    refine ev_start ?_
    simp (disch := omega) only [at1_eq, h1, hn, go_sem, Int.reduceEq, Int.reduceLT, Int.reduceLE, Int.reduceNeg, Nat.reduceAdd, Nat.reduceLT, Nat.reduceEqDiff, Nat.reduceMul, Nat.reduceLeDiff, reduceIte, Nat.reduceBEq, reduceCtorEq, evP_D, evD_guard, evD_cons, evD_zero, evD_nil]
def rdgF : List V → Option (V × List Ev.Blk)
  | [.int .i64 n, .int .i64 k] => if (1 ≤ n ∧ n ≤ 40) ∧ 0 ≤ k ∧ k ≤ n then some (.int .i64 (lnG n k), []) else none
  | _ => none
theorem rdgF_eq {n k : Int} (h : (1 ≤ n ∧ n ≤ 40) ∧ 0 ≤ k ∧ k ≤ n) : rdgF [.int .i64 n, .int .i64 k] = some (.int .i64 (lnG n k), []) := if_pos h
theorem rdg_snd {J : World → Prop} (hJ : Stable J) : Snd Tryd.prog J 71 rdgF := by
  intro args r bs h
  unfold rdgF at h
  split at h
  · split at h
    · rename_i n k hc
      obtain ⟨rfl, rfl⟩ := some_pair h
      obtain ⟨m, rfl⟩ : ∃ m : Nat, k = m := ⟨k.toNat, by omega⟩
      obtain ⟨n, rfl⟩ : ∃ m : Nat, n = m := ⟨n.toNat, by omega⟩
      refine evFn (l := []) (nv := nv0) (fz := fz0) (dr := dr71) (dd := dd71) (lam := []) (ms := ms0) trivial hJ trivial ms0_ok Tryd.func71 rfl rfl (Nat.le_of_ble_eq_true rfl) (Nat.le_of_ble_eq_true rfl) drOk71 ?_
      dsimp only [Tryd.f71, dr71, dd71, Option.getD_some]
      refine ev_start ?_
      simp (disch := omega) only [go_sem, Int.reduceEq, Int.reduceLT, Int.reduceLE, Int.reduceNeg, Nat.reduceAdd, Nat.reduceLT, Nat.reduceEqDiff, Nat.reduceMul, Nat.reduceLeDiff, reduceIte, Nat.reduceBEq, reduceCtorEq, evP_D, evD_guard, evD_cons, evD_zero, evD_nil]
      refine evQ_loop [0, 1, 5, 6] [] (fun σ => ∃ (j : Nat), j ≤ m ∧ σ = ⟨[(0, .int .i64 n), (1, .int .i64 m), (5, .int .i64 (lnG n j)), (6, .int .i64 ((n : Int) - j))], []⟩)
        (fun σ => (match Ev.look 6 σ.env with | some (.int _ n) => n.toNat | _ => 0)) ?_ ?_
      · simp only [go_sem, Int.reduceEq, Int.reduceLT, Int.reduceLE, Int.reduceNeg, Nat.reduceAdd, Nat.reduceLT, Nat.reduceEqDiff, Nat.reduceMul, Nat.reduceLeDiff, reduceIte, Nat.reduceBEq, reduceCtorEq, evP_D, evD_guard, evD_cons, evD_zero, evD_nil]
        exact ⟨0, Nat.zero_le _, by rw [show ((0 : Nat) : Int) = 0 from rfl, lnG_0, Int.sub_zero]⟩
      · rintro σ ⟨j, hj, rfl⟩
        have hg0 := lnG_bd (n := n) j (by omega)
        have hg1 := lnG_le (n := n) (n - j) j (by omega)
        have hT := lnT_bd (n := n) (by omega) (by omega)
        by_cases hlt : j < m
        · have hlt' : (n : Int) - j > (n : Int) - m := by omega
          have hlt2 : (n : Int) - m < (n : Int) - j := by omega
          simp (disch := omega) only [hlt', hlt2, go_sem, Int.reduceEq, Int.reduceLT, Int.reduceLE, Int.reduceNeg, Nat.reduceAdd, Nat.reduceLT, Nat.reduceEqDiff, Nat.reduceMul, Nat.reduceLeDiff, reduceIte, Nat.reduceBEq, reduceCtorEq, evP_D, evD_guard, evD_cons, evD_zero, evD_nil]
          exact ⟨⟨j + 1, hlt, by rw [show ((j + 1 : Nat) : Int) = (j : Int) + 1 by omega, lnG_step, show (n : Int) - ((j : Int) + 1) = (n : Int) - j - 1 by omega]⟩, by omega⟩
        · have hj' : j = m := by omega
          subst hj'
          have hlt2 : ¬ (n : Int) - j < (n : Int) - j := by omega
          simp (disch := omega) only [hlt2, go_sem, Int.reduceEq, Int.reduceLT, Int.reduceLE, Int.reduceNeg, Nat.reduceAdd, Nat.reduceLT, Nat.reduceEqDiff, Nat.reduceMul, Nat.reduceLeDiff, reduceIte, Nat.reduceBEq, reduceCtorEq, evP_D, evD_guard, evD_cons, evD_zero, evD_nil]
    · cases h
  · cases h
def rp1C (p : Pl) : List V := [.rd (plV p) 0]
theorem rp1_sound {J : World → Prop} (hJ : Stable J) (p : Pl) (h : PlOk keyOk' codeOk p) (k : Nat) (hk : (k : Int) ≤ p.num) : SoundAt Tryd.prog J 69 (.int .i64 k :: rp1C p) (.int .i64 (partF p k)) [] := by
  obtain ⟨n, hn⟩ : ∃ n : Nat, p.num = n := ⟨p.num.toNat, by have := h.num; omega⟩
  have hb := h.num
  have ha := h.amt
  unfold rp1C plV
  rw [hn] at hk hb ⊢
  have hT := lnT_bd (n := n) (by omega) (by omega)
  have hg0 := lnG_bd (n := n) k (by omega)
  have hg1 := lnG_le (n := n) (n - k) k (by omega)
  have m1 := lnm_bd (D := p.amt) (k := lnG n k) (by omega) (by omega) hg0 (by omega)
  have m2 := lnm_bd (D := p.amt) (k := k) (by omega) (by omega) (by omega) (by omega)
  have d1 := rdgF_eq (n := n) (k := k) (by omega)
  have d2 := rdgF_eq (n := n) (k := n) (by omega)
  rw [lnG_n] at d2
  by_cases h1 : p.kind = 1
  · have e : partF p k = lnD p.amt n k := by rw [partF_1 h1, hn]
    rw [e]
    have hr : rndF [.int .i64 (p.amt * lnG n k), .int .i64 (lnT n), .int .i64 2] = some (.int .i64 (lnD p.amt n k), []) := rndF_eq (by omega)
    refine evFn (l := [(71, rdgF), (70, rndF)]) (nv := nv0) (fz := fz0) (dr := dr69) (dd := dd69) (lam := []) (ms := ms0) ⟨rdg_snd hJ, rround_snd, trivial⟩ hJ trivial ms0_ok Tryd.func69 rfl rfl (Nat.le_of_ble_eq_true rfl) (Nat.le_of_ble_eq_true rfl) drOk69 ?_
    dsimp only [Tryd.f69, dr69, dd69, Option.getD_some]
    refine ev_start ?_
    simp (disch := omega) only [h1, d1, d2, hr, go_sem, Int.reduceEq, Int.reduceLT, Int.reduceLE, Int.reduceNeg, Nat.reduceAdd, Nat.reduceLT, Nat.reduceEqDiff, Nat.reduceMul, Nat.reduceLeDiff, reduceIte, Nat.reduceBEq, reduceCtorEq, evP_D, evD_guard, evD_cons, evD_zero, evD_nil]
  · have e : partF p k = lnS p.amt n k := by rw [partF_0 h1, hn]
    rw [e]
    have hr : rndF [.int .i64 (p.amt * k), .int .i64 n, .int .i64 2] = some (.int .i64 (lnS p.amt n k), []) := rndF_eq (by omega)
    refine evFn (l := [(71, rdgF), (70, rndF)]) (nv := nv0) (fz := fz0) (dr := dr69) (dd := dd69) (lam := []) (ms := ms0) ⟨rdg_snd hJ, rround_snd, trivial⟩ hJ trivial ms0_ok Tryd.func69 rfl rfl (Nat.le_of_ble_eq_true rfl) (Nat.le_of_ble_eq_true rfl) drOk69 ?_
    dsimp only [Tryd.f69, dr69, dd69, Option.getD_some]
    refine ev_start ?_
    simp (disch := omega) only [h1, hr, go_sem, Int.reduceEq, Int.reduceLT, Int.reduceLE, Int.reduceNeg, Nat.reduceAdd, Nat.reduceLT, Nat.reduceEqDiff, Nat.reduceMul, Nat.reduceLeDiff, reduceIte, Nat.reduceBEq, reduceCtorEq, evP_D, evD_guard, evD_cons, evD_zero, evD_nil]
theorem rparts_sound {J : World → Prop} (hJ : Stable J) (p : Pl) (h : PlOk keyOk' codeOk p) : SoundAt Tryd.prog J 33 [plV p] (.vec 0) [.vec 3 1 ((partL p).map (V.int .i64))] := by
  obtain ⟨n, hn⟩ : ∃ n : Nat, p.num = n := ⟨p.num.toNat, by have := h.num; omega⟩
  have hb := h.num
  have ha := h.amt
  obtain ⟨G, hG, sG⟩ := famj (P := Tryd.prog) (J := J) (f := 69) (fun k : { k : Nat // (k : Int) ≤ p.num } => .int .i64 k.1 :: rp1C p) (fun k => (.int .i64 (partF p k.1), [])) (fun i j hij => by
    simp only [List.cons.injEq, V.int.injEq, true_and, and_true] at hij
    rw [hij]) fun k => rp1_sound hJ p h k.1 k.2
  have hP := parted_sound hJ 69 (rp1C p) G sG (by simp [rp1C, V.dataL, V.data, plV]) (partF p) n (by omega) (fun k hk => hG ⟨k, by omega⟩) (fun k hk => by
    by_cases h1 : p.kind = 1
    · rw [partF_1 h1, hn]
      have := lnD_bd (D := p.amt) (n := n) (k := k) (by omega) (by omega) (by omega) (by omega)
      omega
    · rw [partF_0 h1, hn]
      have := lnS_bd (D := p.amt) (n := n) (k := k) (by omega) (by omega) (by omega) (by omega)
      omega)
  have e : partL p = steps (partF p) n := by unfold partL; rw [hn, Int.toNat_natCast]
  rw [e]
  unfold rp1C at hP
  unfold plV at hP ⊢
  refine evFn (l := [(68, at1 _ (_, [.vec 3 1 ((steps (partF p) n).map (V.int .i64))]))]) (nv := nv0) (fz := fz0) (dr := dr33) (dd := dd33) (lam := []) (ms := ms0) ⟨at1_snd hP, trivial⟩ hJ trivial ms0_ok Tryd.func33 rfl rfl (Nat.le_of_ble_eq_true rfl) (Nat.le_of_ble_eq_true rfl) drOk33 ?_
  dsimp only [Tryd.f33, dr33, dd33, Option.getD_some]
  refine ev_start ?_
  simp (disch := omega) only [at1_eq, hn, List.mapM_cons, List.mapM_nil, Option.bind_eq_bind, Option.pure_def, Option.bind_some, go_sem, Int.reduceEq, Int.reduceLT, Int.reduceLE, Int.reduceNeg, Nat.reduceAdd, Nat.reduceLT, Nat.reduceEqDiff, Nat.reduceMul, Nat.reduceLeDiff, reduceIte, Nat.reduceBEq, reduceCtorEq, evP_D, evD_guard, evD_cons, evD_zero, evD_nil]
end Go.Proofs.YtdmkmbaaemhhhaaDoor
