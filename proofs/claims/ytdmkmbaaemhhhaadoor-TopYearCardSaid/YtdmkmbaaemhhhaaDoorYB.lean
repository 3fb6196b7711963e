/-
  Steps of the proof of TopYear, joined: TopE TopG YrP JRunE ClsE.
-/
import Derived.Test.YtdmkmbaaemhhhaaDoorYA
import Derived.Test.YtdmkmbaaemhhhaaDoorTsP
import Derived.Test.YtdmkmbaaemhhhaaDoorTsE
namespace Go.Proofs.YtdmkmbaaemhhhaaDoor
open Go Go.Ev Go.RowKit Go.Acc
set_option maxHeartbeats 4000000
set_option linter.unusedSimpArgs false
set_option linter.unusedVariables false
attribute [local go_sem] mutV getB mvB bkB V.mv V.mvL V.bk V.bkL Blk.mv Blk.bk posN nmN backN noDup app_writes setHL_nil setHL_cons postM_ret postM_normal resM hasB_nil hasB_cons St.mut names_nil names_cons sortV cellOf mkX_M mkX_S mkX_ln lnL_at ms0_mt ms0_st V.lone V.loneL List.zip_cons_cons List.zip_nil_left Option.isNone_none bornV subE partR unB bytesW boundsV ownP sliceW copyV clearV lenM takeV tk1 mapsV mkMapV hintOk lookV updV mapKE keyOk V.key app_lend callW_fn lendV postL_ret postL_normal postT_ret postT_normal takeR St.lent mkX_L bin_eql_vz bin_eql_zv bin_eql_rz bin_eql_zr bin_eql_zz bin_neq_vz bin_neq_zv bin_neq_rz bin_neq_zr bin_neq_zz eqH nilEq nonE plainI gOf_bool gOf_skip g_some g_none Int.ofNat_zero Int.cast_ofNat_Int Bool.false_and Bool.and_false sliceV noBox elemsZ V.scrub V.scrubL Blk.scrub appendV isSlice maxLen_eq leT List.contains_nil List.contains_cons nvL_at fzL_at fillV V.plain V.plainL Blk.plain List.size_toArray mapO_nil mapO_cons Option.isNone_some beqT beqF oI_not mkX_e phi_nil phi_cons bin_eql_bool bin_neq_bool bin_eql_agg bin_neq_agg eqV eqFs eqK_int eqK_bool' eqK_str mkX_T mkX_Φ mkX_n mkX_f mkX_d mkX_r nv0_at fz0_at evQ_dr evP_W evW_nil evW_cons evW_guard okW_eq tame_none tame_new tame_write wb_none wb_new wb_write okU_some offW_none offW_some touchOf V.noRef V.noRefL Option.isSome_some Option.isSome_none mild_none mild_new Option.getD_some Option.getD_none evQ_seq evQ_region evQ_block evQ_cond evQ_ret evQ_skip evQ_exit evO_cons evO_nil evO_guard freezeL_nil oS_some oS_none oS_ite oS_ite' oB_bool oI_true oI_false oE_normal oE_exit oE_ret bQ_normal bQ_ret bQ_exit lQ_normal lQ_ret lQ_exit List.zipIdx_cons List.zipIdx_nil List.map_cons List.map_nil evalOp opd_const opd_tmp opd_func ofC_int ofC_bool ofC_str ofC_nil app_none app_new app_write app_change putE_some putE_none setA_cons setA_nil setH_cons setH_nil mapA_cons mapA_nil look_cons look_nil e_mk h_mk drop_nil drop_mk keep_mk dstOk_some dstOk_none guardT_eq true_and and_true Bool.not_false Bool.not_true selB_true selB_false mem_nil mem_cons kpL_nil kpL_cons drL_nil drL_cons closed_mk V.refsIn V.refsInL Blk.refsIn List.all_cons List.all_nil lenV bin_add bin_sub bin_mul bin_quo bin_rem bin_eql bin_neq bin_lss bin_leq bin_gtr bin_geq un_neg un_not post_ret post_normal St.init Bool.false_eq_true List.length_map Bool.or_false Bool.or_true Bool.false_or Bool.true_or beq_self_eq_true Option.map_some Option.map_none Option.bind_some List.getElem?_cons_zero List.getElem?_cons_succ scalar stor isAggV V.cells List.cons_append List.nil_append if_true if_false wrap_of callV V.dataL V.data Bool.and_true Bool.true_and fresh names V.ren V.renL retV resV packL packV packC getBlks wrapR subV putV decide_true decide_false TK.agg List.length_cons List.length_nil List.take_succ_cons List.take_zero List.drop_succ_cons List.drop_zero List.take_nil List.drop_nil Nat.zero_add Nat.add_zero List.append_nil List.getElem?_nil elemsV ro ro0 ro1 roC ty1 ty2 ty3 ty4 ty5 ty6 ty7 ty8 ty9 ty10 ty11 ty12 ty13 ty14 ty15 ty16 ty17 ty18 ty19 ty21 ty22 ty23 ty24 ty26 ty27 ty28 ty29 ty30 ty31 ty32 ty33 ty34 ty35 ty36 ty37 ty38 ty39 ty40 ty41 ty42 ty44 ty45 ty47 ty49 ty51 ty53 ty54 ty55 ty56 ty57 ty58 ty59 ty60 ty61 ty62 ty63 ty64 ty65 ty66 ty67 ty68 ty69 ty70 ty71 ty72 ty73 ty74 ty75 ty76 ty77 ty78 ty79 ty80 ty81 ty82 ty83 ty84 ty85 ty86 ty87 ty88 ty89 ty90 ty92 ty93 ty94 ty95 ty96 ty97 ty98 ty99 ty100 ty101 ty102 ty103 ty104 ty105 ty107 ty108 ty109 ty110 ty111 ty112 ty113 ty114 ty115 ty116 ty117 ty118 ty119 ty123 ty124 ty125 ty126 ty127 ty128 ty129 ty130 ty131 ty132 ty133 ty135 ty136 ty137 ty138 ty139 ty141 ty142 ty143 ty144 ty146 ty147 ty148 ty149 ty153 ty154 ty155 ty156 ty157 ty158 ty159 ty160 ty161 eqs29 eqs61 eqs79 eqs94
/-- k mod n, k as an unsigned number -/
def wthn (k n : Int) : Int := (k % 18446744073709551616) % n
theorem wthn_bd (k : Int) {n : Int} (h : 0 < n) : 0 ≤ wthn k n ∧ wthn k n < n := ⟨Int.emod_nonneg _ (by omega), Int.emod_lt_of_pos _ h⟩
theorem within_sound {J : World → Prop} (hJ : Stable J) (k n : Int) (h0 : 0 < n) (h1 : n ≤ 9223372036854775807) : SoundAt Tryd.prog J 13 [.int .i64 k, .int .i64 n] (.int .i64 (wthn k n)) [] := by
  have w1 : IntKind.u64.wrap k = k % 18446744073709551616 := by simp [IntKind.wrap, IntKind.bits, IntKind.signed]
  have w2 : IntKind.u64.wrap n = n := by simp [IntKind.wrap, IntKind.bits, IntKind.signed]; omega
  have hn0 : ¬ n = 0 := by omega
  have hb := wthn_bd k h0
  have ht : (k % 18446744073709551616).tmod n = wthn k n := Int.tmod_eq_emod_of_nonneg (Int.emod_nonneg _ (by decide))
  have w3 : IntKind.i64.wrap (wthn k n) = wthn k n := by rw [IntKind.wrap_i64]; omega
  refine evFn (l := []) (nv := nv0) (fz := fz0) (dr := dr13) (dd := dd13) (lam := []) (ms := ms0) trivial hJ trivial ms0_ok Tryd.func13 rfl rfl (Nat.le_of_ble_eq_true rfl) (Nat.le_of_ble_eq_true rfl) drOk13 ?_
  dsimp only [Tryd.f13, dr13, dd13, Option.getD_some]
  refine ev_start ?_
  simp (disch := omega) only [w1, w2, hn0, ht, w3, go_sem, Int.reduceEq, Int.reduceLT, Int.reduceLE, Int.reduceNeg, Nat.reduceAdd, Nat.reduceLT, Nat.reduceEqDiff, Nat.reduceMul, Nat.reduceLeDiff, reduceIte, Nat.reduceBEq, reduceCtorEq, evP_D, evD_guard, evD_cons, evD_zero, evD_nil]
theorem tkey_sound {J : World → Prop} (hJ : Stable J) (n : Nat) (h : n < 100) : SoundAt Tryd.prog J 75 [.int .i64 n] (.str (keyT n)) [] := by
  have hD := dec_nat hJ 1 n (by simpa using h) (by omega) (by omega)
  have hs := decF_size 1 n (by simpa using h)
  have h1 : ByteArray.size (⟨#[107]⟩ : ByteArray) = 1 := rfl
  have e : keyT n = (⟨#[107]⟩ : ByteArray) ++ decF 1 n := rfl
  rw [e]
  refine evFn (l := [(34, at1 _ (_, []))]) (nv := nv0) (fz := fz0) (dr := dr75) (dd := dd75) (lam := []) (ms := ms0) ⟨at1_snd hD, trivial⟩ hJ trivial ms0_ok Tryd.func75 rfl rfl (Nat.le_of_ble_eq_true rfl) (Nat.le_of_ble_eq_true rfl) drOk75 ?_
  dsimp only [Tryd.f75, dr75, dd75, Option.getD_some]
  refine ev_start ?_
  simp (disch := omega) only [at1_eq, bin_add_str, go_sem, Int.reduceEq, Int.reduceLT, Int.reduceLE, Int.reduceNeg, Nat.reduceAdd, Nat.reduceLT, Nat.reduceEqDiff, Nat.reduceMul, Nat.reduceLeDiff, reduceIte, Nat.reduceBEq, reduceCtorEq, evP_D, evD_guard, evD_cons, evD_zero, evD_nil]
theorem moved_sound {J : World → Prop} (hJ : Stable J) (n : Nat) (at_ a : Int) (to from_ : ByteArray) (h : n < 100) (h0 : -1000000000000 ≤ a) (h1 : a ≤ 1000000000000) :
    SoundAt Tryd.prog J 38 [.int .i64 n, .int .i64 at_, .int .i64 a, .str to, .str from_] (enW (mvX n at_ a to from_)) [] := by
  have hK := tkey_sound hJ n h
  have e : enW (mvX n at_ a to from_) = .agg [.str (keyT n), .int .i64 at_, .row 2 [.agg [.str to, .int .i64 a], .agg [.str from_, .int .i64 (-a)]]] := rfl
  rw [e]
  refine evFn (l := [(75, at1 _ (_, []))]) (nv := nv0) (fz := fzL [(22, [168])]) (dr := dr38) (dd := dd38) (lam := []) (ms := ms0) ⟨at1_snd hK, trivial⟩ hJ trivial ms0_ok Tryd.func38 rfl rfl (Nat.le_of_ble_eq_true rfl) (Nat.le_of_ble_eq_true rfl) drOk38 ?_
  dsimp only [Tryd.f38, dr38, dd38, Option.getD_some]
  refine ev_start ?_
  simp (disch := omega) only [at1_eq, Int.zero_sub, freezeL, St.freeze, List.filter_cons, List.filter_nil, bne, go_sem, Int.reduceEq, Int.reduceLT, Int.reduceLE, Int.reduceNeg, Nat.reduceAdd, Nat.reduceLT, Nat.reduceEqDiff, Nat.reduceMul, Nat.reduceLeDiff, reduceIte, Nat.reduceBEq, reduceCtorEq, evP_D, evD_guard, evD_cons, evD_zero, evD_nil]
theorem tplain_sound {J : World → Prop} (hJ : Stable J) : SoundAt Tryd.prog J 37 [] (bkV plA [] (-1)) [] := by
  refine sound_res (r := .agg [.row 2 (plA.map acV), .zero, .int .i64 (-1)]) ?_ rfl fun w ok val hv => ?_
  · have e : plA.map acV = [.agg [.str c10, .int .i64 0], .agg [.str c15, .int .i64 0], .agg [.str c20, .int .i64 1], .agg [.str c30, .int .i64 2], .agg [.str c40, .int .i64 3], .agg [.str c50, .int .i64 4]] := rfl
    rw [e]
    unfold c10 c15 c20 c30 c40 c50
    refine evFn (l := []) (nv := nv0) (fz := fzL [(8, [56])]) (dr := dr37) (dd := dd37) (lam := []) (ms := ms0) trivial hJ trivial ms0_ok Tryd.func37 rfl rfl (Nat.le_of_ble_eq_true rfl) (Nat.le_of_ble_eq_true rfl) drOk37 ?_
    dsimp only [Tryd.f37, dr37, dd37, Option.getD_some]
    refine ev_start ?_
    simp (disch := omega) only [freezeL, St.freeze, List.filter_cons, List.filter_nil, bne, go_sem, Int.reduceEq, Int.reduceLT, Int.reduceLE, Int.reduceNeg, Nat.reduceAdd, Nat.reduceLT, Nat.reduceEqDiff, Nat.reduceMul, Nat.reduceLeDiff, reduceIte, Nat.reduceBEq, reduceCtorEq, evP_D, evD_guard, evD_cons, evD_zero, evD_nil]
  · cases hv with
    | agg cs vs hlen h1 hh =>
      refine .agg _ vs (by simpa using hlen) h1 fun j c v hc hv => ?_
      match j with
      | 0 => exact hh 0 c v hc hv
      | 1 => simp at hc; subst hc; exact zero_row 3 _ _ _ (hh 1 .zero v rfl hv)
      | 2 => exact hh 2 c v hc hv
      | j + 3 => simp at hc
theorem begun_law : postE plA [] (-1) (mvX 1 5 7 c10 c40) = 0 ∧ bkChk plA (postB [] (mvX 1 5 7 c10 c40)) (-1) = 0 ∧ ofB c10 0 5 (postB [] (mvX 1 5 7 c10 c40)) = 7 := by
  have hne : c10 ≠ c40 := by decide +kernel
  have hx := enX_mv (n := 1) (at_ := 5) (a := 7) (by omega) (by omega) (by omega) (by omega) (by omega) (by omega) codes_ok.1 codes_ok.2.2.2.2.1 hne
  obtain ⟨e1, e2⟩ := post_mv plain_ok hx (by simp) plA_has.1 plA_has.2.2.2.2.1 (by omega) (by simp)
  refine ⟨e1, (postE_ok e1).2.2, ?_⟩
  rw [e2, ofB_ins]
  have hc := eq_true (show (0 : Int) ≤ 5 ∧ (5 : Int) ≤ 5 by omega)
  simp only [ofX_mv, hc, if_true, Ne.symm hne, if_false]
  rfl
theorem begun_sound {J : World → Prop} (hJ : Stable J) : SoundAt Tryd.prog J 12 [] (.bool true) [] := by
  obtain ⟨e1, e2, e3⟩ := begun_law
  have hl := (bkChk_iff.1 e2).2.2.1
  have hP := tplain_sound hJ
  have hM := moved_sound hJ 1 5 7 c10 c40 (by omega) (by omega) (by omega)
  have hPo := post_sound hJ plA [] (-1) (mvX 1 5 7 c10 c40) (by simp)
  have hB := balance_sound hJ plA (postB [] (mvX 1 5 7 c10 c40)) (-1) c10 5 (by unfold maxLen; omega)
  have eR : posR plA [] (-1) (mvX 1 5 7 c10 c40) = .tup [bkV plA (postB [] (mvX 1 5 7 c10 c40)) (-1), .int .i64 0] := by unfold posR; rw [e1, if_pos rfl]
  have b1 : balE plA (postB [] (mvX 1 5 7 c10 c40)) (-1) c10 5 = 0 := by unfold balE; rw [if_neg (fun h => h e2), if_neg (by rw [plA_has.1]; simp), if_neg (fun h => h (by omega))]
  have b2 : balN plA (postB [] (mvX 1 5 7 c10 c40)) (-1) c10 5 = 7 := by unfold balN; rw [if_pos b1, e3]
  rw [eR] at hPo
  rw [b1, b2] at hB
  generalize postB [] (mvX 1 5 7 c10 c40) = E at *
  unfold bkV at hP hPo hB
  generalize mvX 1 5 7 c10 c40 = X at *
  obtain ⟨k, d, l⟩ := X
  rw [enW_mk] at hM hPo
  unfold c10 c40 at hM
  unfold c10 at hB
  refine evFn (l := [(37, at1 _ (_, [])), (38, at1 _ (_, [])), (36, at1 _ (_, [])), (39, at1 _ (_, []))]) (nv := nv0) (fz := fz0) (dr := dr12) (dd := dd12) (lam := []) (ms := ms0) ⟨at1_snd hP, at1_snd hM, at1_snd hPo, at1_snd hB, trivial⟩ hJ trivial ms0_ok Tryd.func12 rfl rfl (Nat.le_of_ble_eq_true rfl) (Nat.le_of_ble_eq_true rfl) drOk12 ?_
  dsimp only [Tryd.f12, dr12, dd12, Option.getD_some]
  refine ev_start ?_
  simp (disch := omega) only [at1_eq, go_sem, Int.reduceEq, Int.reduceLT, Int.reduceLE, Int.reduceNeg, Nat.reduceAdd, Nat.reduceLT, Nat.reduceEqDiff, Nat.reduceMul, Nat.reduceLeDiff, reduceIte, Nat.reduceBEq, reduceCtorEq, evP_D, evD_guard, evD_cons, evD_zero, evD_nil]
end Go.Proofs.YtdmkmbaaemhhhaaDoor
namespace Go.Proofs.YtdmkmbaaemhhhaaDoor
open Go Go.Ev Go.RowKit Go.Acc
theorem within_ex {J : World → Prop} (hJ : Stable J) : ∃ F : List V → Option (V × List Ev.Blk), (∀ (k n : Int), 0 < n → n ≤ 9223372036854775807 → F [.int .i64 k, .int .i64 n] = some (.int .i64 (wthn k n), [])) ∧ Snd Tryd.prog J 13 F := by
  obtain ⟨F, h1, h2⟩ := fam_ex (P := Tryd.prog) (J := J) (f := 13) (fun x : { x : Int × Int // 0 < x.2 ∧ x.2 ≤ 9223372036854775807 } => [.int .i64 x.1.1, .int .i64 x.1.2]) (fun x => (.int .i64 (wthn x.1.1 x.1.2), [])) (fun i j h => by
    simp only [List.cons.injEq, V.int.injEq, true_and, and_true] at h
    rw [h.1, h.2]) fun x => within_sound hJ x.1.1 x.1.2 x.2.1 x.2.2
  exact ⟨F, fun k n h0 hn => h1 ⟨(k, n), h0, hn⟩, h2⟩
theorem moved_ex {J : World → Prop} (hJ : Stable J) : ∃ F : List V → Option (V × List Ev.Blk), (∀ (n : Nat) (at_ a : Int) (to from_ : ByteArray), n < 100 → -1000000000000 ≤ a → a ≤ 1000000000000 → F [.int .i64 n, .int .i64 at_, .int .i64 a, .str to, .str from_] = some (enW (mvX n at_ a to from_), [])) ∧ Snd Tryd.prog J 38 F := by
  obtain ⟨F, h1, h2⟩ := fam_ex (P := Tryd.prog) (J := J) (f := 38) (fun x : { x : Nat × Int × Int × ByteArray × ByteArray // x.1 < 100 ∧ -1000000000000 ≤ x.2.2.1 ∧ x.2.2.1 ≤ 1000000000000 } => [.int .i64 x.1.1, .int .i64 x.1.2.1, .int .i64 x.1.2.2.1, .str x.1.2.2.2.1, .str x.1.2.2.2.2]) (fun x => (enW (mvX x.1.1 x.1.2.1 x.1.2.2.1 x.1.2.2.2.1 x.1.2.2.2.2), [])) (fun i j h => by
    simp only [List.cons.injEq, V.int.injEq, V.str.injEq, true_and, and_true] at h
    have h0 : i.1.1 = j.1.1 := by omega
    rw [h0, h.2.1, h.2.2.1, h.2.2.2.1, h.2.2.2.2]) fun x => moved_sound hJ x.1.1 x.1.2.1 x.1.2.2.1 x.1.2.2.2.1 x.1.2.2.2.2 x.2.1 x.2.2.1 x.2.2.2
  exact ⟨F, fun n at_ a to from_ hn h0 h1' => h1 ⟨(n, at_, a, to, from_), hn, h0, h1'⟩, h2⟩
theorem enW_inj {E E' : List En} (h : E.map enW = E'.map enW) : E = E' := by
  have := congrArg unEn h
  rw [unEn_map, unEn_map] at this
  exact Option.some.inj this
theorem enW_inj1 {x x' : En} (h : enW x = enW x') : x = x' := by
  have := enW_inj (E := [x]) (E' := [x']) (by simp [h])
  simpa using this
theorem post_ex {J : World → Prop} (hJ : Stable J) (A : List (ByteArray × Int)) (s : Int) : ∃ F : List V → Option (V × List Ev.Blk), (∀ (E : List En) (x : En), E.length ≤ maxLen → F [.agg [.row 2 (A.map acV), .row 3 (E.map enW), .int .i64 s], enW x] = some (posR A E s x, [])) ∧ Snd Tryd.prog J 36 F := by
  obtain ⟨F, h1, h2⟩ := fam_ex (P := Tryd.prog) (J := J) (f := 36) (fun x : { x : List En × En // x.1.length ≤ maxLen } => [bkV A x.1.1 s, enW x.1.2]) (fun x => (posR A x.1.1 s x.1.2, [])) (fun i j h => by
    simp only [List.cons.injEq, bkV, V.agg.injEq, V.row.injEq, true_and, and_true] at h
    rw [enW_inj h.1, enW_inj1 h.2]) fun x => post_sound hJ A x.1.1 s x.1.2 x.2
  exact ⟨F, fun E x hE => h1 ⟨(E, x), hE⟩, h2⟩
theorem balance_ex {J : World → Prop} (hJ : Stable J) (A : List (ByteArray × Int)) (s : Int) : ∃ F : List V → Option (V × List Ev.Blk), (∀ (E : List En) (c : ByteArray) (d : Int), E.length ≤ maxLen → F [.agg [.row 2 (A.map acV), .row 3 (E.map enW), .int .i64 s], .str c, .int .i64 d] = some (.tup [.int .i64 (balN A E s c d), .int .i64 (balE A E s c d)], [])) ∧ Snd Tryd.prog J 39 F := by
  obtain ⟨F, h1, h2⟩ := fam_ex (P := Tryd.prog) (J := J) (f := 39) (fun x : { x : List En × ByteArray × Int // x.1.length ≤ maxLen } => [bkV A x.1.1 s, .str x.1.2.1, .int .i64 x.1.2.2]) (fun x => (.tup [.int .i64 (balN A x.1.1 s x.1.2.1 x.1.2.2), .int .i64 (balE A x.1.1 s x.1.2.1 x.1.2.2)], [])) (fun i j h => by
    simp only [List.cons.injEq, bkV, V.agg.injEq, V.row.injEq, V.str.injEq, V.int.injEq, true_and, and_true] at h
    rw [enW_inj h.1, h.2.1, h.2.2]) fun x => balance_sound hJ A x.1.1 s x.1.2.1 x.1.2.2 x.2
  exact ⟨F, fun E c d hE => h1 ⟨(E, c, d), hE⟩, h2⟩
theorem bal_ok {A : List (ByteArray × Int)} {E : List En} {s : Int} {c : ByteArray} {d : Int} (h : bkChk A E s = 0) (hc : hasA A c = true) (h0 : 0 ≤ d) (h1 : d ≤ 292193) : balE A E s c d = 0 ∧ balN A E s c d = ofB c 0 d E := by
  have b1 : balE A E s c d = 0 := by unfold balE; rw [if_neg (fun hh => hh h), if_neg (by rw [hc]; simp), if_neg (fun hh => hh ⟨h0, h1⟩)]
  exact ⟨b1, by unfold balN; rw [if_pos b1]⟩
end Go.Proofs.YtdmkmbaaemhhhaaDoor
namespace Go.Acc
open Go.Proofs.YtdmkmbaaemhhhaaDoor
open Go Go.Ev
set_option linter.unusedVariables false
/-- entries posted one by one: the first error, what there is then -/
def runB (A : List (ByteArray × Int)) (s : Int) : List En → List En → Int × List En
  | E, [] => (0, E)
  | E, x :: r => if postE A E s x = 0 then runB A s (postB E x) r else (postE A E s x, [])
theorem runB_ok {A : List (ByteArray × Int)} {s : Int} : ∀ {r E : List En}, bkChk A E s = 0 → (runB A s E r).1 = 0 → bkChk A (runB A s E r).2 s = 0
  | [], E, h, _ => h
  | x :: r, E, h, h1 => by
    unfold runB at h1 ⊢
    by_cases h0 : postE A E s x = 0
    · rw [if_pos h0] at h1 ⊢
      exact runB_ok (postE_ok h0).2.2 h1
    · rw [if_neg h0] at h1
      exact absurd h1 h0
/-! ### the sum of everything -/
theorem sum_add {α : Type} (f g : α → Int) : ∀ l : List α, (l.map fun a => f a + g a).sum = (l.map f).sum + (l.map g).sum
  | [] => rfl
  | a :: l => by
    simp only [List.map_cons, List.sum_cons, sum_add f g l]
    omega
theorem sum_zero {α : Type} (f : α → Int) : ∀ l : List α, (∀ a ∈ l, f a = 0) → (l.map f).sum = 0
  | [], _ => rfl
  | a :: l, h => by
    simp only [List.map_cons, List.sum_cons]
    rw [h a (by simp), sum_zero f l fun b hb => h b (by simp [hb])]
    rfl
theorem sum_cong {α : Type} {f g : α → Int} {l : List α} (h : ∀ a ∈ l, f a = g a) : (l.map f).sum = (l.map g).sum := by
  rw [List.map_congr_left h]
theorem lnSum_all (l : List (ByteArray × Int)) : ∀ k, lnSum l k = ((l.take k).map (·.2)).sum
  | 0 => by simp [lnSum]
  | k + 1 => by
    rw [lnSum, lnSum_all l k]
    cases h : l[k]? with
    | none =>
      rw [List.take_of_length_le (by rw [List.getElem?_eq_none_iff] at h; omega), List.take_of_length_le (by rw [List.getElem?_eq_none_iff] at h; omega)]
      simp
    | some p =>
      obtain ⟨hk, rfl⟩ := List.getElem?_eq_some_iff.1 h
      rw [List.take_succ_eq_append_getElem hk, List.map_append, List.sum_append]
      simp
theorem enX_sum {x : En} (h : enX x = 0) : (x.2.2.map (·.2)).sum = 0 := by
  unfold enX enE at h
  split at h
  · omega
  · split at h
    · omega
    · unfold lnChk at h
      split at h
      · omega
      · split at h
        · rename_i h1; exact absurd h h1
        · split at h
          · omega
          · rename_i h2
            have h3 : lnSum x.2.2 x.2.2.length = 0 := Classical.byContradiction fun hh => h2 (.inr hh)
            rw [lnSum_all, List.take_length] at h3
            exact h3
theorem sum_swap {α β : Type} (g : α → β → Int) (l : List α) : ∀ m : List β, (l.map fun a => (m.map fun b => g a b).sum).sum = (m.map fun b => (l.map fun a => g a b).sum).sum
  | [] => by rw [sum_zero]; rfl; intro a _; rfl
  | b :: m => by
    simp only [List.map_cons, List.sum_cons]
    rw [sum_add, sum_swap g l m]
/-- lines, each counted at its account, come to their sum -/
theorem all_lines {A : List (ByteArray × Int)} (hA : (A.map (·.1)).Nodup) {l : List (ByteArray × Int)} (hl : ∀ p ∈ l, hasA A p.1 = true) : (A.map fun a => ofL a.1 l).sum = (l.map (·.2)).sum := by
  unfold ofL
  refine (sum_swap (fun (a p : ByteArray × Int) => lnW a.1 p) A l).trans ?_
  refine sum_cong fun p hp => ?_
  rw [← sum_one p.1 p.2 A hA (hl p hp)]
  refine sum_cong fun a _ => ?_
  unfold lnW isC
  by_cases h : a.1 = p.1
  · rw [if_pos (decide_eq_true h.symm), if_pos h]
  · rw [if_neg (by simpa using fun e => h e.symm), if_neg h]
theorem all_zero {A : List (ByteArray × Int)} {E : List En} {s : Int} (h : bkChk A E s = 0) (f t : Int) : (A.map fun a => ofB a.1 f t E).sum = 0 := by
  obtain ⟨h1, _, _, h4, _, _⟩ := bkChk_iff.1 h
  have hA := (acChk_codes h1).2.2
  unfold ofB
  refine (sum_swap (fun (a : ByteArray × Int) (x : En) => ofX a.1 f t x) A E).trans ?_
  refine sum_zero _ _ fun x hx => ?_
  by_cases hc : f ≤ x.2.1 ∧ x.2.1 ≤ t
  · have : (A.map fun a => ofX a.1 f t x) = A.map fun a => ofL a.1 x.2.2 := List.map_congr_left fun a _ => if_pos hc
    rw [this, all_lines hA fun p hp => ?_, enX_sum (h4 x hx).1]
    have hk := (h4 x hx).2
    unfold knownB at hk
    exact List.all_eq_true.1 hk p hp
  · exact sum_zero _ _ fun a _ => if_neg hc
theorem trD_trC (E : List En) (day : Int) (A : List (ByteArray × Int)) : trD E day A = trC E day A + (A.map fun a => ofB a.1 0 day E).sum := by
  unfold trD trC
  rw [← sum_add]
  refine sum_cong fun a _ => ?_
  unfold pos neg
  split <;> omega
theorem kdS_all {A : List (ByteArray × Int)} (hA : ∀ a ∈ A, 0 ≤ a.2 ∧ a.2 ≤ 4) (E : List En) (f t : Int) : kdS E f t 0 A + kdS E f t 1 A + kdS E f t 2 A + kdS E f t 3 A + kdS E f t 4 A = (A.map fun a => ofB a.1 f t E).sum := by
  unfold kdS
  rw [← sum_add, ← sum_add, ← sum_add, ← sum_add]
  refine sum_cong fun a ha => ?_
  have := hA a ha
  generalize a.2 = k at *
  have : k = 0 ∨ k = 1 ∨ k = 2 ∨ k = 3 ∨ k = 4 := by omega
  rcases this with rfl | rfl | rfl | rfl | rfl <;> simp
/-! ### closing -/
def clsB (E : List En) (day : Int) (a : ByteArray × Int) : Bool := decide (ofB a.1 0 day E ≠ 0) && (decide (a.2 = 3) || decide (a.2 = 4))
def clsL (E : List En) (day : Int) (A : List (ByteArray × Int)) : List (ByteArray × Int) := (A.filter (clsB E day)).map fun a => (a.1, -(ofB a.1 0 day E))
def clsS (E : List En) (day : Int) (A : List (ByteArray × Int)) : Int := ((A.filter (clsB E day)).map fun a => ofB a.1 0 day E).sum
def clsX (key : ByteArray) (E : List En) (day : Int) (code : ByteArray) (A : List (ByteArray × Int)) : En := (key, day, clsL E day A ++ if clsS E day A ≠ 0 then [(code, clsS E day A)] else [])
theorem filter_sum {α : Type} (p : α → Bool) (g : α → Int) : ∀ l : List α, ((l.filter p).map g).sum = (l.map fun a => if p a = true then g a else 0).sum
  | [] => rfl
  | a :: l => by
    rw [List.filter_cons]
    cases h : p a with
    | true => simp only [if_true, List.map_cons, List.sum_cons, filter_sum p g l, h]
    | false => simp only [Bool.false_eq_true, if_false, List.map_cons, List.sum_cons, filter_sum p g l, h]; omega
theorem clsS_kinds (E : List En) (day : Int) (A : List (ByteArray × Int)) : clsS E day A = kdS E 0 day 3 A + kdS E 0 day 4 A := by
  unfold clsS kdS
  rw [filter_sum, ← sum_add]
  refine sum_cong fun a _ => ?_
  unfold clsB
  by_cases h0 : ofB a.1 0 day E = 0
  · rw [h0]; simp
  · by_cases h3 : a.2 = 3
    · simp [h0, h3]
    · by_cases h4 : a.2 = 4
      · simp [h0, h4]
      · simp [h3, h4]
theorem ofL_append (c : ByteArray) (l m : List (ByteArray × Int)) : ofL c (l ++ m) = ofL c l + ofL c m := by
  unfold ofL; rw [List.map_append, List.sum_append]
/-- what the closing lines take from an account -/
theorem ofL_cls {A : List (ByteArray × Int)} (hA : (A.map (·.1)).Nodup) (E : List En) (day : Int) {a : ByteArray × Int} (ha : a ∈ A) : ofL a.1 (clsL E day A) = if clsB E day a = true then -(ofB a.1 0 day E) else 0 := by
  unfold ofL clsL
  rw [List.map_map, filter_sum]
  have hh : hasA A a.1 = true := by
    unfold hasA
    exact List.any_eq_true.2 ⟨a, ha, by simp [isC]⟩
  rw [← sum_one a.1 (if clsB E day a = true then -(ofB a.1 0 day E) else 0) A hA hh]
  refine sum_cong fun b hb => ?_
  by_cases hba : b.1 = a.1
  · have e : b = a := by
      obtain ⟨i, hi, rfl⟩ := List.mem_iff_getElem.1 hb
      obtain ⟨j, hj, rfl⟩ := List.mem_iff_getElem.1 ha
      have : i = j := (List.getElem_inj (h₀ := by simpa using hi) (h₁ := by simpa using hj) hA).1 (by simpa using hba)
      subst this
      rfl
    subst e
    rw [if_pos rfl]
    simp [lnW, isC]
  · rw [if_neg hba]
    simp [lnW, isC, hba]
theorem kindR_mem {A : List (ByteArray × Int)} {code : ByteArray} (h : acChk A = 0) (he : (kindR code A).2 = 0) : (code, (kindR code A).1) ∈ A := by
  unfold kindR at he ⊢
  rw [if_pos h] at he ⊢
  by_cases ha : A.any (isC code) = true
  · rw [if_pos ha] at he ⊢
    have hlt : A.findIdx (isC code) < A.length := List.findIdx_lt_length_of_exists (by
      obtain ⟨x, hx, hc⟩ := List.any_eq_true.1 ha
      exact ⟨x, hx, hc⟩)
    have hc := List.findIdx_getElem (xs := A) (p := isC code) (w := hlt)
    rw [List.getElem?_eq_getElem hlt]
    have e : A[A.findIdx (isC code)].1 = code := by simpa [isC] using hc
    have hm := List.getElem_mem hlt
    generalize A[A.findIdx (isC code)] = q at e hm
    subst e
    exact hm
  · rw [if_neg ha] at he
    cases he
/-- THE CLOSED BOOK -/
theorem closed {A : List (ByteArray × Int)} {E : List En} {s day : Int} {key code : ByteArray} (hk : kindR code A = (2, 0)) (hp : postE A E s (clsX key E day code A) = 0) (hn : getE key E = none) (hd : 0 ≤ day ∧ day ≤ 292193) :
    let E2 := postB E (clsX key E day code A)
    bkChk A E2 day = 0 ∧ trD E2 day A = trC E2 day A ∧ kdS E2 0 day 0 A = -kdS E2 0 day 1 A + -kdS E2 0 day 2 A ∧ -kdS E2 0 day 3 A - kdS E2 0 day 4 A = 0 ∧ -kdS E2 0 day 2 A = -kdS E 0 day 2 A + (-kdS E 0 day 3 A - kdS E 0 day 4 A) := by
  intro E2
  obtain ⟨hb, hx, hb2⟩ := postE_ok hp
  have hb3 : bkChk A E2 day = 0 := by
    obtain ⟨g1, g2, g3, g4, g5, g6⟩ := bkChk_iff.1 hb2
    exact bkChk_iff.2 ⟨g1, by omega, g3, g4, g5, g6⟩
  obtain ⟨h1, _, _, _, _, _⟩ := bkChk_iff.1 hb
  obtain ⟨_, hkd, hnd⟩ := acChk_codes h1
  have hmem : (code, (2 : Int)) ∈ A := by
    have := kindR_mem h1 (code := code) (by rw [hk])
    rwa [hk] at this
  have hE2 : ∀ c, ofB c 0 day E2 = ofL c (clsX key E day code A).2.2 + ofB c 0 day E := fun c => by
    show ofB c 0 day (postB E (clsX key E day code A)) = _
    unfold postB
    rw [show (clsX key E day code A).1 = key from rfl, hn]
    simp only
    rw [ofB_ins]
    congr 1
    exact if_pos ⟨hd.1, Int.le_refl _⟩
  have hS := clsS_kinds E day A
  have hone : ∀ a ∈ A, ofB a.1 0 day E2 = (if a.2 = 3 ∨ a.2 = 4 then 0 else ofB a.1 0 day E) + (if a.1 = code then clsS E day A else 0) := fun a ha => by
    rw [hE2 a.1]
    show ofL a.1 (clsL E day A ++ _) + _ = _
    rw [ofL_append, ofL_cls hnd E day ha]
    have hlast : ofL a.1 (if clsS E day A ≠ 0 then [(code, clsS E day A)] else []) = if a.1 = code then clsS E day A else 0 := by
      by_cases h0 : clsS E day A = 0
      · rw [if_neg (fun h => h h0), h0]
        by_cases hc : a.1 = code
        · rw [if_pos hc]; rfl
        · rw [if_neg hc]; rfl
      · rw [if_pos h0]
        by_cases hc : a.1 = code
        · rw [if_pos hc]
          simp [ofL, lnW, isC, hc]
        · rw [if_neg hc]
          simp [ofL, lnW, isC]
          intro h
          exact absurd h.symm hc
    rw [hlast]
    by_cases h34 : a.2 = 3 ∨ a.2 = 4
    · rw [if_pos h34]
      by_cases h0 : ofB a.1 0 day E = 0
      · rw [if_neg (by simp [clsB, h0]), h0]; omega
      · have hc : clsB E day a = true := by
          unfold clsB
          rcases h34 with h | h <;> simp [h0, h]
        rw [if_pos hc]; omega
    · rw [if_neg h34]
      have hc : ¬ clsB E day a = true := by
        unfold clsB
        simp only [not_or] at h34
        simp [h34.1, h34.2]
      rw [if_neg hc]; omega
  have hcode : ∀ a ∈ A, a.1 = code → a.2 = 2 := fun a ha hc => by
    obtain ⟨i, hi, rfl⟩ := List.mem_iff_getElem.1 ha
    obtain ⟨j, hj, hj2⟩ := List.mem_iff_getElem.1 hmem
    have hj1 : A[j].1 = code := by rw [hj2]
    have : i = j := (List.getElem_inj (h₀ := by simpa using hi) (h₁ := by simpa using hj) hnd).1 (by simpa using hc.trans hj1.symm)
    subst this
    rw [hj2]
  have hk3 : kdS E2 0 day 3 A = 0 := sum_zero _ _ fun a ha => by
    by_cases h : a.2 = 3
    · rw [if_pos h, hone a ha, if_pos (.inl h)]
      by_cases hc : a.1 = code
      · have := hcode a ha hc; omega
      · rw [if_neg hc]; rfl
    · rw [if_neg h]
  have hk4 : kdS E2 0 day 4 A = 0 := sum_zero _ _ fun a ha => by
    by_cases h : a.2 = 4
    · rw [if_pos h, hone a ha, if_pos (.inr h)]
      by_cases hc : a.1 = code
      · have := hcode a ha hc; omega
      · rw [if_neg hc]; rfl
    · rw [if_neg h]
  have hk2 : kdS E2 0 day 2 A = kdS E 0 day 2 A + clsS E day A := by
    have hh : hasA A code = true := by
      unfold hasA
      exact List.any_eq_true.2 ⟨_, hmem, by simp [isC]⟩
    rw [← sum_one code (clsS E day A) A hnd hh]
    unfold kdS
    rw [← sum_add]
    refine sum_cong fun a ha => ?_
    by_cases h : a.2 = 2
    · rw [if_pos h, if_pos h, hone a ha, if_neg (by omega)]
    · rw [if_neg h, if_neg h, if_neg (fun hc => h (hcode a ha hc))]; rfl
  have ht := all_zero hb3 0 day
  have hall := kdS_all hkd E2 0 day
  have hT := trD_trC E2 day A
  rw [ht] at hT hall
  exact ⟨hb3, by omega, by omega, by omega, by omega⟩
end Go.Acc
namespace Go.Acc
open Go Go.Ev
theorem runB_nil (A : List (ByteArray × Int)) (s : Int) (E : List En) : runB A s E [] = (0, E) := rfl
theorem runB_cons (A : List (ByteArray × Int)) (s : Int) (E : List En) (x : En) (r : List En) : runB A s E (x :: r) = if postE A E s x = 0 then runB A s (postB E x) r else (postE A E s x, []) := rfl
end Go.Acc
namespace Go.Proofs.YtdmkmbaaemhhhaaDoor
open Go Go.Ev Go.RowKit Go.Acc
set_option maxHeartbeats 4000000
set_option linter.unusedSimpArgs false
set_option linter.unusedVariables false
attribute [local go_sem] mutV getB mvB bkB V.mv V.mvL V.bk V.bkL Blk.mv Blk.bk posN nmN backN noDup app_writes setHL_nil setHL_cons postM_ret postM_normal resM hasB_nil hasB_cons St.mut names_nil names_cons sortV cellOf mkX_M mkX_S mkX_ln lnL_at ms0_mt ms0_st V.lone V.loneL List.zip_cons_cons List.zip_nil_left Option.isNone_none bornV subE partR unB bytesW boundsV ownP sliceW copyV clearV lenM takeV tk1 mapsV mkMapV hintOk lookV updV mapKE keyOk V.key app_lend callW_fn lendV postL_ret postL_normal postT_ret postT_normal takeR St.lent mkX_L bin_eql_vz bin_eql_zv bin_eql_rz bin_eql_zr bin_eql_zz bin_neq_vz bin_neq_zv bin_neq_rz bin_neq_zr bin_neq_zz eqH nilEq nonE plainI gOf_bool gOf_skip g_some g_none Int.ofNat_zero Int.cast_ofNat_Int Bool.false_and Bool.and_false sliceV noBox elemsZ V.scrub V.scrubL Blk.scrub appendV isSlice maxLen_eq leT List.contains_nil List.contains_cons nvL_at fzL_at fillV V.plain V.plainL Blk.plain List.size_toArray mapO_nil mapO_cons Option.isNone_some beqT beqF oI_not mkX_e phi_nil phi_cons bin_eql_bool bin_neq_bool bin_eql_agg bin_neq_agg eqV eqFs eqK_int eqK_bool' eqK_str mkX_T mkX_Φ mkX_n mkX_f mkX_d mkX_r nv0_at fz0_at evQ_dr evP_W evW_nil evW_cons evW_guard okW_eq tame_none tame_new tame_write wb_none wb_new wb_write okU_some offW_none offW_some touchOf V.noRef V.noRefL Option.isSome_some Option.isSome_none mild_none mild_new Option.getD_some Option.getD_none evQ_seq evQ_region evQ_block evQ_cond evQ_ret evQ_skip evQ_exit evO_cons evO_nil evO_guard freezeL_nil oS_some oS_none oS_ite oS_ite' oB_bool oI_true oI_false oE_normal oE_exit oE_ret bQ_normal bQ_ret bQ_exit lQ_normal lQ_ret lQ_exit List.zipIdx_cons List.zipIdx_nil List.map_cons List.map_nil evalOp opd_const opd_tmp opd_func ofC_int ofC_bool ofC_str ofC_nil app_none app_new app_write app_change putE_some putE_none setA_cons setA_nil setH_cons setH_nil mapA_cons mapA_nil look_cons look_nil e_mk h_mk drop_nil drop_mk keep_mk dstOk_some dstOk_none guardT_eq true_and and_true Bool.not_false Bool.not_true selB_true selB_false mem_nil mem_cons kpL_nil kpL_cons drL_nil drL_cons closed_mk V.refsIn V.refsInL Blk.refsIn List.all_cons List.all_nil lenV bin_add bin_sub bin_mul bin_quo bin_rem bin_eql bin_neq bin_lss bin_leq bin_gtr bin_geq un_neg un_not post_ret post_normal St.init Bool.false_eq_true List.length_map Bool.or_false Bool.or_true Bool.false_or Bool.true_or beq_self_eq_true Option.map_some Option.map_none Option.bind_some List.getElem?_cons_zero List.getElem?_cons_succ scalar stor isAggV V.cells List.cons_append List.nil_append if_true if_false wrap_of callV V.dataL V.data Bool.and_true Bool.true_and fresh names V.ren V.renL retV resV packL packV packC getBlks wrapR subV putV decide_true decide_false TK.agg List.length_cons List.length_nil List.take_succ_cons List.take_zero List.drop_succ_cons List.drop_zero List.take_nil List.drop_nil Nat.zero_add Nat.add_zero List.append_nil List.getElem?_nil elemsV ro ro0 ro1 roC ty1 ty2 ty3 ty4 ty5 ty6 ty7 ty8 ty9 ty10 ty11 ty12 ty13 ty14 ty15 ty16 ty17 ty18 ty19 ty21 ty22 ty23 ty24 ty26 ty27 ty28 ty29 ty30 ty31 ty32 ty33 ty34 ty35 ty36 ty37 ty38 ty39 ty40 ty41 ty42 ty44 ty45 ty47 ty49 ty51 ty53 ty54 ty55 ty56 ty57 ty58 ty59 ty60 ty61 ty62 ty63 ty64 ty65 ty66 ty67 ty68 ty69 ty70 ty71 ty72 ty73 ty74 ty75 ty76 ty77 ty78 ty79 ty80 ty81 ty82 ty83 ty84 ty85 ty86 ty87 ty88 ty89 ty90 ty92 ty93 ty94 ty95 ty96 ty97 ty98 ty99 ty100 ty101 ty102 ty103 ty104 ty105 ty107 ty108 ty109 ty110 ty111 ty112 ty113 ty114 ty115 ty116 ty117 ty118 ty119 ty123 ty124 ty125 ty126 ty127 ty128 ty129 ty130 ty131 ty132 ty133 ty135 ty136 ty137 ty138 ty139 ty141 ty142 ty143 ty144 ty146 ty147 ty148 ty149 ty153 ty154 ty155 ty156 ty157 ty158 ty159 ty160 ty161 eqs29 eqs61 eqs79 eqs94
theorem enJ_eq (x : En) : enJ x = enW x := rfl
theorem enJ_map (E : List En) : E.map enJ = E.map enW := rfl
/-- what Run answers: the error -/
noncomputable def jrE (A : List (ByteArray × Int)) (E : List En) (s : Int) (l : List Job.Pl) (day : Int) : Int :=
  if bkChk A E s ≠ 0 then bkChk A E s else if Job.plChk keyOk' codeOk l ≠ 0 then Job.plChk keyOk' codeOk l else if ¬ (0 ≤ day ∧ day ≤ 292193) then 1 else (runB A s E (Job.dueL day l)).1
noncomputable def jrV (A : List (ByteArray × Int)) (E : List En) (s : Int) (l : List Job.Pl) (day : Int) : V := .tup [if jrE A E s l day = 0 then bkV A (runB A s E (Job.dueL day l)).2 s else zbV, .int .i64 (jrE A E s l day)]
set_option maxRecDepth 20000 in
set_option maxHeartbeats 8000000 in
theorem jrun_sound (A : List (ByteArray × Int)) (E : List En) (s : Int) (l : List Job.Pl) (day : Int) (hE : E.length ≤ maxLen) : SoundAt Tryd.prog Tab 14 [bkV A E s, .row 7 (l.map Job.plV), .int .i64 day] (jrV A E s l day) [] := by
  have hJ := stableTab
  have hB := bcheck_sound hJ A E s hE
  unfold bkV at hB ⊢
  by_cases hz : bkChk A E s = 0
  case neg =>
    have e1 : jrE A E s l day = bkChk A E s := if_pos hz
    have eR : jrV A E s l day = .tup [.agg [.zero, .zero, .int .i64 0], .int .i64 (bkChk A E s)] := by unfold jrV; rw [e1, if_neg hz]; rfl
    rw [eR]
    refine evFn (l := [(20, at1 _ (_, []))]) (nv := nv0) (fz := fz0) (dr := dr14) (dd := dd14) (lam := []) (ms := ms0) ⟨at1_snd hB, trivial⟩ hJ trivial ms0_ok Tryd.func14 rfl rfl (Nat.le_of_ble_eq_true rfl) (Nat.le_of_ble_eq_true rfl) drOk14 ?_
    dsimp only [Tryd.f14, dr14, dd14, Option.getD_some]
    refine ev_start ?_
    simp (disch := omega) only [at1_eq, hz, go_sem, Int.reduceEq, Int.reduceLT, Int.reduceLE, Int.reduceNeg, Nat.reduceAdd, Nat.reduceLT, Nat.reduceEqDiff, Nat.reduceMul, Nat.reduceLeDiff, reduceIte, Nat.reduceBEq, reduceCtorEq, evP_D, evD_guard, evD_cons, evD_zero, evD_nil]
  by_cases hp : Job.plChk keyOk' codeOk l = 0
  case neg =>
    have e1 : jrE A E s l day = Job.plChk keyOk' codeOk l := by unfold jrE; rw [if_neg (fun h => h hz), if_pos hp]
    have eR : jrV A E s l day = .tup [.agg [.zero, .zero, .int .i64 0], .int .i64 (Job.plChk keyOk' codeOk l)] := by unfold jrV; rw [e1, if_neg hp]; rfl
    have hD := jdue_bad l day _ (by rw [if_neg hp]) hp
    rw [eR]
    generalize Job.plChk keyOk' codeOk l = e at *
    refine evFn (l := [(20, at1 _ (_, [])), (5, at1 _ (_, []))]) (nv := nv0) (fz := fz0) (dr := dr14) (dd := dd14) (lam := []) (ms := ms0) ⟨at1_snd hB, at1_snd hD, trivial⟩ hJ trivial ms0_ok Tryd.func14 rfl rfl (Nat.le_of_ble_eq_true rfl) (Nat.le_of_ble_eq_true rfl) drOk14 ?_
    dsimp only [Tryd.f14, dr14, dd14, Option.getD_some]
    refine ev_start ?_
    simp (disch := omega) only [at1_eq, hz, hp, go_sem, Int.reduceEq, Int.reduceLT, Int.reduceLE, Int.reduceNeg, Nat.reduceAdd, Nat.reduceLT, Nat.reduceEqDiff, Nat.reduceMul, Nat.reduceLeDiff, reduceIte, Nat.reduceBEq, reduceCtorEq, evP_D, evD_guard, evD_cons, evD_zero, evD_nil]
  by_cases hd : 0 ≤ day ∧ day ≤ 292193
  case neg =>
    have e1 : jrE A E s l day = 1 := by unfold jrE; rw [if_neg (fun h => h hz), if_neg (fun h => h hp), if_pos hd]
    have eR : jrV A E s l day = .tup [.agg [.zero, .zero, .int .i64 0], .int .i64 1] := by unfold jrV; rw [e1]; rfl
    have hD := jdue_bad l day 1 (by rw [if_pos hp, if_neg hd]) (by omega)
    rw [eR]
    refine evFn (l := [(20, at1 _ (_, [])), (5, at1 _ (_, []))]) (nv := nv0) (fz := fz0) (dr := dr14) (dd := dd14) (lam := []) (ms := ms0) ⟨at1_snd hB, at1_snd hD, trivial⟩ hJ trivial ms0_ok Tryd.func14 rfl rfl (Nat.le_of_ble_eq_true rfl) (Nat.le_of_ble_eq_true rfl) drOk14 ?_
    dsimp only [Tryd.f14, dr14, dd14, Option.getD_some]
    refine ev_start ?_
    simp (disch := omega) only [at1_eq, hz, go_sem, Int.reduceEq, Int.reduceLT, Int.reduceLE, Int.reduceNeg, Nat.reduceAdd, Nat.reduceLT, Nat.reduceEqDiff, Nat.reduceMul, Nat.reduceLeDiff, reduceIte, Nat.reduceBEq, reduceCtorEq, evP_D, evD_guard, evD_cons, evD_zero, evD_nil]
  have hD := jdue_sound l day hp hd
  rw [enJ_map] at hD
  have hk := bkChk_ok hz
  have hC := copied_sound hJ A E s (acChk_len hk.1) (fun x hx => (enX_ok (hk.2.2.2 x hx).1).2.1) hk.2.2.1
  unfold bkV at hC
  obtain ⟨PF, hPF, hPFs⟩ := post_ex hJ A s
  have hlen : (Job.dueL day l).length ≤ 480 := by
    have h1 := dueL_len (day := day) (l := l) fun q hq => (Job.one_ok keyOk' codeOk ((Job.chk_one keyOk' codeOk hp).2 q hq)).num
    have h2 := (Job.chk_one keyOk' codeOk hp).1
    have h3 : l.length * 40 ≤ 12 * 40 := Nat.mul_le_mul_right _ h2
    omega
  have e0 : jrE A E s l day = (runB A s E (Job.dueL day l)).1 := by unfold jrE; rw [if_neg (fun h => h hz), if_neg (fun h => h hp), if_neg (fun h => h hd)]
  have eR : jrV A E s l day = .tup [if (runB A s E (Job.dueL day l)).1 = 0 then .agg [.row 2 (A.map acV), .row 3 ((runB A s E (Job.dueL day l)).2.map enW), .int .i64 s] else .agg [.zero, .zero, .int .i64 0], .int .i64 (runB A s E (Job.dueL day l)).1] := by unfold jrV; rw [e0]; rfl
  rw [eR]
  generalize hL : Job.dueL day l = L at *
  obtain ⟨R, hR⟩ : ∃ R, R = runB A s E L := ⟨_, rfl⟩
  rw [← hR]
  refine evFn (l := [(20, at1 _ (_, [])), (5, at1 _ (_, [.vec 34 3 (L.map enW)])), (40, at1 _ (_, [])), (36, PF)]) (nv := nv0) (fz := fz0) (dr := dr14) (dd := dd14) (lam := []) (ms := ms0) ⟨at1_snd hB, at1_snd hD, at1_snd hC, hPFs, trivial⟩ hJ trivial ms0_ok Tryd.func14 rfl rfl (Nat.le_of_ble_eq_true rfl) (Nat.le_of_ble_eq_true rfl) drOk14 ?_
  dsimp only [Tryd.f14, dr14, dd14, Option.getD_some]
  refine ev_start ?_
  simp (disch := omega) only [at1_eq, hz, List.length_map, go_sem, Int.reduceEq, Int.reduceLT, Int.reduceLE, Int.reduceNeg, Nat.reduceAdd, Nat.reduceLT, Nat.reduceEqDiff, Nat.reduceMul, Nat.reduceLeDiff, reduceIte, Nat.reduceBEq, reduceCtorEq, evP_D, evD_guard, evD_cons, evD_zero, evD_nil]
  refine evQ_loop [6, 11, 32, 33, 34] [48, 88, 184] (fun σ => ∃ (k : Nat) (E' : List En), (k ≤ L.length ∧ bkChk A E' s = 0 ∧ runB A s E' (L.drop k) = R) ∧ σ = ⟨[(6, .ptr 48 0), (11, .ptr 88 0), (32, .vec 184), (33, .int .i64 L.length), (34, .int .i64 k)], [(48, .box (.agg [.zero, .zero, .int .i64 0])), (184, .vec 34 3 (L.map enW)), (88, .box (.agg [.row 2 (A.map acV), .row 3 (E'.map enW), .int .i64 s]))]⟩)
    (fun σ => L.length - (match Ev.look 34 σ.env with | some (.int _ n) => n.toNat | _ => 0)) ?_ ?_
  · simp only [go_sem, Int.reduceEq, Int.reduceLT, Int.reduceLE, Int.reduceNeg, Nat.reduceAdd, Nat.reduceLT, Nat.reduceEqDiff, Nat.reduceMul, Nat.reduceLeDiff, reduceIte, Nat.reduceBEq, reduceCtorEq, evP_D, evD_guard, evD_cons, evD_zero, evD_nil]
    exact ⟨0, E, ⟨Nat.zero_le _, hz, hR.symm⟩, rfl⟩
  · rintro σ ⟨k, E', ⟨hk, hz', hrun⟩, rfl⟩
    by_cases hlt : k < L.length
    case neg =>
      have hk' : k = L.length := by omega
      subst hk'
      rw [List.drop_length, runB_nil] at hrun
      subst hrun
      have hlt' : ¬ ((L.length : Int) < L.length) := by omega
      simp (disch := (first | omega | assumption)) only [hlt', go_sem, Int.reduceEq, Int.reduceLT, Int.reduceLE, Int.reduceNeg, Nat.reduceAdd, Nat.reduceLT, Nat.reduceEqDiff, Nat.reduceMul, Nat.reduceLeDiff, reduceIte, Nat.reduceBEq, reduceCtorEq, evP_D, evD_guard, evD_cons, evD_zero, evD_nil]
    have hlt' : (k : Int) < L.length := by omega
    obtain ⟨⟨xk, xd, xl⟩, hx⟩ : ∃ x, L[k]? = some x := ⟨_, List.getElem?_eq_getElem hlt⟩
    have hg := enW_get hx
    have hdr : L.drop k = (xk, xd, xl) :: L.drop (k + 1) := by
      obtain ⟨h1, h2⟩ := List.getElem?_eq_some_iff.1 hx
      rw [List.drop_eq_getElem_cons h1, h2]
    rw [hdr, runB_cons] at hrun
    have hEl := (bkChk_iff.1 hz').2.2.1
    have hP := hPF E' (xk, xd, xl) (by simp only [maxLen]; omega)
    unfold posR at hP
    rw [enW_mk] at hP
    have hms : L.length - ((k : Int) + 1).toNat < L.length - (k : Int).toNat := by
      have e3 : ((k : Int) + 1).toNat = k + 1 := by omega
      rw [e3, Int.toNat_natCast]; exact Nat.sub_lt_sub_left hlt (Nat.lt_succ_self k)
    by_cases h0 : postE A E' s (xk, xd, xl) = 0
    · rw [if_pos h0] at hrun
      rw [h0, if_pos rfl] at hP
      unfold bkV at hP
      have hz2 := (postE_ok h0).2.2
      simp (disch := (first | omega | assumption)) only [hlt', idx_nat, List.length_map, hg, hP, go_sem, Int.reduceEq, Int.reduceLT, Int.reduceLE, Int.reduceNeg, Nat.reduceAdd, Nat.reduceLT, Nat.reduceEqDiff, Nat.reduceMul, Nat.reduceLeDiff, reduceIte, Nat.reduceBEq, reduceCtorEq, evP_D, evD_guard, evD_cons, evD_zero, evD_nil]
      exact ⟨⟨k + 1, _, ⟨hlt, hz2, hrun⟩, rfl⟩, hms⟩
    · rw [if_neg h0] at hrun
      rw [if_neg h0] at hP
      unfold zbV at hP
      subst hrun
      generalize postE A E' s (xk, xd, xl) = q at *
      simp (disch := (first | omega | assumption)) only [hlt', idx_nat, List.length_map, hg, hP, h0, go_sem, Int.reduceEq, Int.reduceLT, Int.reduceLE, Int.reduceNeg, Nat.reduceAdd, Nat.reduceLT, Nat.reduceEqDiff, Nat.reduceMul, Nat.reduceLeDiff, reduceIte, Nat.reduceBEq, reduceCtorEq, evP_D, evD_guard, evD_cons, evD_zero, evD_nil]
end Go.Proofs.YtdmkmbaaemhhhaaDoor
namespace Go.Acc
open Go.Proofs.YtdmkmbaaemhhhaaDoor
open Go Go.Ev
set_option linter.unusedVariables false
/-- what Close answers: the error -/
def clE (A : List (ByteArray × Int)) (E : List En) (s : Int) (key : ByteArray) (day : Int) (code : ByteArray) : Int :=
  if bkChk A E s ≠ 0 then bkChk A E s else if ¬ (0 ≤ day ∧ day ≤ 292193) then 1 else if (kindR code A).2 ≠ 0 then (kindR code A).2 else if (kindR code A).1 ≠ 2 then 3 else
  if clsL E day A = [] then 4 else if postE A E s (clsX key E day code A) ≠ 0 then postE A E s (clsX key E day code A) else if day < s then 9 else 0
theorem clsL_succ {E : List En} {day : Int} {A : List (ByteArray × Int)} {k : Nat} {a : ByteArray × Int} (h : A[k]? = some a) : clsL E day (A.take (k + 1)) = clsL E day (A.take k) ++ if clsB E day a = true then [(a.1, -(ofB a.1 0 day E))] else [] := by
  obtain ⟨hk, rfl⟩ := List.getElem?_eq_some_iff.1 h
  unfold clsL
  rw [List.take_succ_eq_append_getElem hk, List.filter_append, List.map_append, List.filter_cons]
  split <;> simp
theorem clsS_succ {E : List En} {day : Int} {A : List (ByteArray × Int)} {k : Nat} {a : ByteArray × Int} (h : A[k]? = some a) : clsS E day (A.take (k + 1)) = clsS E day (A.take k) + if clsB E day a = true then ofB a.1 0 day E else 0 := by
  obtain ⟨hk, rfl⟩ := List.getElem?_eq_some_iff.1 h
  unfold clsS
  rw [List.take_succ_eq_append_getElem hk, List.filter_append, List.map_append, List.sum_append, List.filter_cons]
  split <;> simp
theorem clsL_len (E : List En) (day : Int) (A : List (ByteArray × Int)) (k : Nat) : (clsL E day (A.take k)).length ≤ A.length := by
  unfold clsL
  rw [List.length_map]
  exact Nat.le_trans (List.length_filter_le _ _) (by rw [List.length_take]; omega)
theorem clsS_bd {E : List En} (hE : ∀ x ∈ E, enX x = 0) (hl : E.length ≤ 60) (day : Int) : ∀ (A : List (ByteArray × Int)), -(720000000000000 * (A.length : Int)) ≤ clsS E day A ∧ clsS E day A ≤ 720000000000000 * (A.length : Int)
  | [] => by simp [clsS]
  | a :: A => by
    have ih := clsS_bd hE hl day A
    have ho := ofB_bd a.1 0 day hE hl
    unfold clsS at ih ⊢
    rw [List.filter_cons, List.length_cons]
    split
    · rw [List.map_cons, List.sum_cons]
      omega
    · omega
end Go.Acc
namespace Go.Proofs.YtdmkmbaaemhhhaaDoor
open Go Go.Ev Go.RowKit Go.Acc
set_option maxHeartbeats 4000000
set_option linter.unusedSimpArgs false
set_option linter.unusedVariables false
attribute [local go_sem] mutV getB mvB bkB V.mv V.mvL V.bk V.bkL Blk.mv Blk.bk posN nmN backN noDup app_writes setHL_nil setHL_cons postM_ret postM_normal resM hasB_nil hasB_cons St.mut names_nil names_cons sortV cellOf mkX_M mkX_S mkX_ln lnL_at ms0_mt ms0_st V.lone V.loneL List.zip_cons_cons List.zip_nil_left Option.isNone_none bornV subE partR unB bytesW boundsV ownP sliceW copyV clearV lenM takeV tk1 mapsV mkMapV hintOk lookV updV mapKE keyOk V.key app_lend callW_fn lendV postL_ret postL_normal postT_ret postT_normal takeR St.lent mkX_L bin_eql_vz bin_eql_zv bin_eql_rz bin_eql_zr bin_eql_zz bin_neq_vz bin_neq_zv bin_neq_rz bin_neq_zr bin_neq_zz eqH nilEq nonE plainI gOf_bool gOf_skip g_some g_none Int.ofNat_zero Int.cast_ofNat_Int Bool.false_and Bool.and_false sliceV noBox elemsZ V.scrub V.scrubL Blk.scrub appendV isSlice maxLen_eq leT List.contains_nil List.contains_cons nvL_at fzL_at fillV V.plain V.plainL Blk.plain List.size_toArray mapO_nil mapO_cons Option.isNone_some beqT beqF oI_not mkX_e phi_nil phi_cons bin_eql_bool bin_neq_bool bin_eql_agg bin_neq_agg eqV eqFs eqK_int eqK_bool' eqK_str mkX_T mkX_Φ mkX_n mkX_f mkX_d mkX_r nv0_at fz0_at evQ_dr evP_W evW_nil evW_cons evW_guard okW_eq tame_none tame_new tame_write wb_none wb_new wb_write okU_some offW_none offW_some touchOf V.noRef V.noRefL Option.isSome_some Option.isSome_none mild_none mild_new Option.getD_some Option.getD_none evQ_seq evQ_region evQ_block evQ_cond evQ_ret evQ_skip evQ_exit evO_cons evO_nil evO_guard freezeL_nil oS_some oS_none oS_ite oS_ite' oB_bool oI_true oI_false oE_normal oE_exit oE_ret bQ_normal bQ_ret bQ_exit lQ_normal lQ_ret lQ_exit List.zipIdx_cons List.zipIdx_nil List.map_cons List.map_nil evalOp opd_const opd_tmp opd_func ofC_int ofC_bool ofC_str ofC_nil app_none app_new app_write app_change putE_some putE_none setA_cons setA_nil setH_cons setH_nil mapA_cons mapA_nil look_cons look_nil e_mk h_mk drop_nil drop_mk keep_mk dstOk_some dstOk_none guardT_eq true_and and_true Bool.not_false Bool.not_true selB_true selB_false mem_nil mem_cons kpL_nil kpL_cons drL_nil drL_cons closed_mk V.refsIn V.refsInL Blk.refsIn List.all_cons List.all_nil lenV bin_add bin_sub bin_mul bin_quo bin_rem bin_eql bin_neq bin_lss bin_leq bin_gtr bin_geq un_neg un_not post_ret post_normal St.init Bool.false_eq_true List.length_map Bool.or_false Bool.or_true Bool.false_or Bool.true_or beq_self_eq_true Option.map_some Option.map_none Option.bind_some List.getElem?_cons_zero List.getElem?_cons_succ scalar stor isAggV V.cells List.cons_append List.nil_append if_true if_false wrap_of callV V.dataL V.data Bool.and_true Bool.true_and fresh names V.ren V.renL retV resV packL packV packC getBlks wrapR subV putV decide_true decide_false TK.agg List.length_cons List.length_nil List.take_succ_cons List.take_zero List.drop_succ_cons List.drop_zero List.take_nil List.drop_nil Nat.zero_add Nat.add_zero List.append_nil List.getElem?_nil elemsV ro ro0 ro1 roC ty1 ty2 ty3 ty4 ty5 ty6 ty7 ty8 ty9 ty10 ty11 ty12 ty13 ty14 ty15 ty16 ty17 ty18 ty19 ty21 ty22 ty23 ty24 ty26 ty27 ty28 ty29 ty30 ty31 ty32 ty33 ty34 ty35 ty36 ty37 ty38 ty39 ty40 ty41 ty42 ty44 ty45 ty47 ty49 ty51 ty53 ty54 ty55 ty56 ty57 ty58 ty59 ty60 ty61 ty62 ty63 ty64 ty65 ty66 ty67 ty68 ty69 ty70 ty71 ty72 ty73 ty74 ty75 ty76 ty77 ty78 ty79 ty80 ty81 ty82 ty83 ty84 ty85 ty86 ty87 ty88 ty89 ty90 ty92 ty93 ty94 ty95 ty96 ty97 ty98 ty99 ty100 ty101 ty102 ty103 ty104 ty105 ty107 ty108 ty109 ty110 ty111 ty112 ty113 ty114 ty115 ty116 ty117 ty118 ty119 ty123 ty124 ty125 ty126 ty127 ty128 ty129 ty130 ty131 ty132 ty133 ty135 ty136 ty137 ty138 ty139 ty141 ty142 ty143 ty144 ty146 ty147 ty148 ty149 ty153 ty154 ty155 ty156 ty157 ty158 ty159 ty160 ty161 eqs29 eqs61 eqs79 eqs94
theorem ofC_ex {J : World → Prop} (hJ : Stable J) (A : List (ByteArray × Int)) (E : List En) (s : Int) (f t : Int) (hE : ∀ x ∈ E, enX x = 0) (hl : E.length ≤ 60) :
    ∃ F : List V → Option (V × List Ev.Blk), (∀ c : ByteArray, F [.agg [.row 2 (A.map acV), .row 3 (E.map enW), .int .i64 s], .str c, .int .i64 f, .int .i64 t] = some (.int .i64 (ofB c f t E), [])) ∧ Snd Tryd.prog J 42 F :=
  fam_ex (fun c : ByteArray => [bkV A E s, .str c, .int .i64 f, .int .i64 t]) (fun c => (.int .i64 (ofB c f t E), [])) (fun i j h => by
    simp only [List.cons.injEq, V.str.injEq, true_and, and_true] at h
    rw [h]) fun c => of_sound hJ A E s c f t hE hl
def clSt (A : List (ByteArray × Int)) (E : List En) (s : Int) (key : ByteArray) (day : Int) (code : ByteArray) (k : Nat) : List (ByteArray × Int) → St
  | [] => ⟨[(2, .int .i64 day), (3, .str code), (4, .ptr 32 0), (8, .ptr 64 0), (13, .ptr 104 0), (14, .int .i64 (clsS E day (A.take k))), (47, .row 2 (A.map acV)), (48, .int .i64 A.length), (49, .int .i64 k)],
      [(32, .box (.agg [.row 2 (A.map acV), .row 3 (E.map enW), .int .i64 s])), (64, .box (.agg [.zero, .zero, .int .i64 0])), (104, .box (.agg [.str key, .int .i64 day, .zero]))]⟩
  | p :: r => ⟨[(2, .int .i64 day), (3, .str code), (4, .ptr 32 0), (8, .ptr 64 0), (13, .ptr 104 0), (14, .int .i64 (clsS E day (A.take k))), (47, .row 2 (A.map acV)), (48, .int .i64 A.length), (49, .int .i64 k)],
      [(32, .box (.agg [.row 2 (A.map acV), .row 3 (E.map enW), .int .i64 s])), (64, .box (.agg [.zero, .zero, .int .i64 0])), (104, .box (.agg [.str key, .int .i64 day, .vec 624])), (624, .vec 61 2 ((p :: r).map acV))]⟩
def clV (A : List (ByteArray × Int)) (E : List En) (s : Int) (key : ByteArray) (day : Int) (code : ByteArray) : V := .tup [if clE A E s key day code = 0 then bkV A (postB E (clsX key E day code A)) day else zbV, .int .i64 (clE A E s key day code)]
set_option maxRecDepth 20000 in
set_option maxHeartbeats 16000000 in
theorem close_sound {J : World → Prop} (hJ : Stable J) (A : List (ByteArray × Int)) (E : List En) (s : Int) (key : ByteArray) (day : Int) (code : ByteArray) (hE : E.length ≤ maxLen) :
    SoundAt Tryd.prog J 15 [bkV A E s, .str key, .int .i64 day, .str code] (clV A E s key day code) [] := by
  have hB := bcheck_sound hJ A E s hE
  have hK := kind_sound hJ A code
  unfold bkV at hB ⊢
  by_cases hz : bkChk A E s = 0
  case neg =>
    have e1 : clE A E s key day code = bkChk A E s := if_pos hz
    have eR : clV A E s key day code = .tup [.agg [.zero, .zero, .int .i64 0], .int .i64 (bkChk A E s)] := by unfold clV; rw [e1, if_neg hz]; rfl
    rw [eR]
    generalize bkChk A E s = q at *
    refine evFn (l := [(20, at1 _ (_, []))]) (nv := nv0) (fz := fz0) (dr := dr15) (dd := dd15) (lam := []) (ms := ms0) ⟨at1_snd hB, trivial⟩ hJ trivial ms0_ok Tryd.func15 rfl rfl (Nat.le_of_ble_eq_true rfl) (Nat.le_of_ble_eq_true rfl) drOk15 ?_
    dsimp only [Tryd.f15, dr15, dd15, Option.getD_some]
    refine ev_start ?_
    simp (disch := omega) only [at1_eq, hz, go_sem, Int.reduceEq, Int.reduceLT, Int.reduceLE, Int.reduceNeg, Nat.reduceAdd, Nat.reduceLT, Nat.reduceEqDiff, Nat.reduceMul, Nat.reduceLeDiff, reduceIte, Nat.reduceBEq, reduceCtorEq, evP_D, evD_guard, evD_cons, evD_zero, evD_nil]
  by_cases hd : 0 ≤ day ∧ day ≤ 292193
  case neg =>
    have e1 : clE A E s key day code = 1 := by unfold clE; rw [if_neg (fun h => h hz), if_pos hd]
    have eR : clV A E s key day code = .tup [.agg [.zero, .zero, .int .i64 0], .int .i64 1] := by unfold clV; rw [e1]; rfl
    have hd' := decide_eq_false hd
    rw [eR]
    refine evFn (l := [(20, at1 _ (_, [])), (21, dayF)]) (nv := nv0) (fz := fz0) (dr := dr15) (dd := dd15) (lam := []) (ms := ms0) ⟨at1_snd hB, is_snd hJ, trivial⟩ hJ trivial ms0_ok Tryd.func15 rfl rfl (Nat.le_of_ble_eq_true rfl) (Nat.le_of_ble_eq_true rfl) drOk15 ?_
    dsimp only [Tryd.f15, dr15, dd15, Option.getD_some]
    refine ev_start ?_
    simp (disch := omega) only [at1_eq, dayF_eq, hz, hd', go_sem, Int.reduceEq, Int.reduceLT, Int.reduceLE, Int.reduceNeg, Nat.reduceAdd, Nat.reduceLT, Nat.reduceEqDiff, Nat.reduceMul, Nat.reduceLeDiff, reduceIte, Nat.reduceBEq, reduceCtorEq, evP_D, evD_guard, evD_cons, evD_zero, evD_nil]
  have hd' := decide_eq_true hd
  by_cases hk0 : (kindR code A).2 = 0
  case neg =>
    have e1 : clE A E s key day code = (kindR code A).2 := by unfold clE; rw [if_neg (fun h => h hz), if_neg (fun h => h hd), if_pos hk0]
    have eR : clV A E s key day code = .tup [.agg [.zero, .zero, .int .i64 0], .int .i64 (kindR code A).2] := by unfold clV; rw [e1, if_neg hk0]; rfl
    rw [eR]
    generalize kindR code A = kr at *
    refine evFn (l := [(20, at1 _ (_, [])), (21, dayF), (41, at1 _ (_, []))]) (nv := nv0) (fz := fz0) (dr := dr15) (dd := dd15) (lam := []) (ms := ms0) ⟨at1_snd hB, is_snd hJ, at1_snd hK, trivial⟩ hJ trivial ms0_ok Tryd.func15 rfl rfl (Nat.le_of_ble_eq_true rfl) (Nat.le_of_ble_eq_true rfl) drOk15 ?_
    dsimp only [Tryd.f15, dr15, dd15, Option.getD_some]
    refine ev_start ?_
    simp (disch := omega) only [at1_eq, dayF_eq, hz, hd', hk0, go_sem, Int.reduceEq, Int.reduceLT, Int.reduceLE, Int.reduceNeg, Nat.reduceAdd, Nat.reduceLT, Nat.reduceEqDiff, Nat.reduceMul, Nat.reduceLeDiff, reduceIte, Nat.reduceBEq, reduceCtorEq, evP_D, evD_guard, evD_cons, evD_zero, evD_nil]
  by_cases hk2 : (kindR code A).1 = 2
  case neg =>
    have e1 : clE A E s key day code = 3 := by unfold clE; rw [if_neg (fun h => h hz), if_neg (fun h => h hd), if_neg (fun h => h hk0), if_pos hk2]
    have eR : clV A E s key day code = .tup [.agg [.zero, .zero, .int .i64 0], .int .i64 3] := by unfold clV; rw [e1]; rfl
    rw [eR]
    generalize kindR code A = kr at *
    refine evFn (l := [(20, at1 _ (_, [])), (21, dayF), (41, at1 _ (_, []))]) (nv := nv0) (fz := fz0) (dr := dr15) (dd := dd15) (lam := []) (ms := ms0) ⟨at1_snd hB, is_snd hJ, at1_snd hK, trivial⟩ hJ trivial ms0_ok Tryd.func15 rfl rfl (Nat.le_of_ble_eq_true rfl) (Nat.le_of_ble_eq_true rfl) drOk15 ?_
    dsimp only [Tryd.f15, dr15, dd15, Option.getD_some]
    refine ev_start ?_
    simp (disch := omega) only [at1_eq, dayF_eq, hz, hd', hk0, hk2, go_sem, Int.reduceEq, Int.reduceLT, Int.reduceLE, Int.reduceNeg, Nat.reduceAdd, Nat.reduceLT, Nat.reduceEqDiff, Nat.reduceMul, Nat.reduceLeDiff, reduceIte, Nat.reduceBEq, reduceCtorEq, evP_D, evD_guard, evD_cons, evD_zero, evD_nil]
  rw [hk0, hk2] at hK
  have e0 : clE A E s key day code = if clsL E day A = [] then 4 else if postE A E s (clsX key E day code A) ≠ 0 then postE A E s (clsX key E day code A) else if day < s then 9 else 0 := by
    unfold clE
    rw [if_neg (fun h => h hz), if_neg (fun h => h hd), if_neg (fun h => h hk0), if_neg (fun h => h hk2)]
  obtain ⟨h1, _, h3, h4⟩ := bkChk_ok hz
  have hEn : ∀ x ∈ E, enX x = 0 := fun x hx => (h4 x hx).1
  have hA24 := (acChk_codes h1).1
  obtain ⟨OF, hOF, hOFs⟩ := ofC_ex hJ A E s 0 day hEn h3
  have hPo := post_sound hJ A E s (clsX key E day code A) hE
  have hS := clsS_bd hEn h3 day
  obtain ⟨X, hX⟩ : ∃ X, X = clsX key E day code A := ⟨_, rfl⟩
  rw [← hX] at hPo e0
  have hSh : postE A E s X = 0 → SoundAt Tryd.prog J 43 [bkV A (postB E X) s, .int .i64 day] (.tup [if day < s then zbV else bkV A (postB E X) day, .int .i64 (if day < s then 9 else 0)]) [] := fun h0 => by
    have hb2 := (postE_ok h0).2.2
    have h := shut_sound hJ A (postB E X) s day (by have := (bkChk_iff.1 hb2).2.2.1; simp only [maxLen]; omega)
    have e3 : shutE A (postB E X) s day = if day < s then 9 else 0 := by unfold shutE; rw [if_neg (fun h => h hb2), if_neg (fun h => h hd)]
    rw [e3] at h
    by_cases hs : day < s
    · rw [if_pos hs] at h ⊢
      rw [if_pos hs]
      exact h
    · rw [if_neg hs] at h ⊢
      rw [if_neg hs]
      exact h
  have hposE : ∀ q, postE A E s X = q → SoundAt Tryd.prog J 36 [.agg [.row 2 (A.map acV), .row 3 (E.map enW), .int .i64 s], .agg [.str key, .int .i64 day, .row 2 (X.2.2.map acV)]] (.tup [if q = 0 then bkV A (postB E X) s else zbV, .int .i64 q]) [] := fun q hq => by
    subst hq
    have e : enW X = .agg [.str key, .int .i64 day, .row 2 (X.2.2.map acV)] := by rw [hX]; rfl
    rw [e] at hPo
    exact hPo
  -- WAYS
  by_cases hnil : clsL E day A = []
  · have e1 : clE A E s key day code = 4 := by rw [e0, if_pos hnil]
    have eR : clV A E s key day code = .tup [.agg [.zero, .zero, .int .i64 0], .int .i64 4] := by unfold clV; rw [e1]; rfl
    rw [eR]
    refine evFn (l := [(20, at1 _ (_, [])), (21, dayF), (41, at1 _ (_, [])), (42, OF)]) (nv := nv0) (fz := fz0) (dr := dr15) (dd := dd15) (lam := []) (ms := ms0) ⟨at1_snd hB, is_snd hJ, at1_snd hK, hOFs, trivial⟩ hJ trivial ms0_ok Tryd.func15 rfl rfl (Nat.le_of_ble_eq_true rfl) (Nat.le_of_ble_eq_true rfl) drOk15 ?_
    dsimp only [Tryd.f15, dr15, dd15, Option.getD_some]
    refine ev_start ?_
    simp (disch := omega) only [at1_eq, dayF_eq, hz, hd', List.length_map, go_sem, Int.reduceEq, Int.reduceLT, Int.reduceLE, Int.reduceNeg, Nat.reduceAdd, Nat.reduceLT, Nat.reduceEqDiff, Nat.reduceMul, Nat.reduceLeDiff, reduceIte, Nat.reduceBEq, reduceCtorEq, evP_D, evD_guard, evD_cons, evD_zero, evD_nil]
    refine evQ_loop [2, 3, 4, 8, 13, 14, 47, 48, 49] [32, 64, 104, 624] (fun σ => ∃ (k : Nat), k ≤ A.length ∧ σ = clSt A E s key day code k (clsL E day (A.take k)))
      (fun σ => A.length - (match Ev.look 49 σ.env with | some (.int _ n) => n.toNat | _ => 0)) ?_ ?_
    · simp only [go_sem, Int.reduceEq, Int.reduceLT, Int.reduceLE, Int.reduceNeg, Nat.reduceAdd, Nat.reduceLT, Nat.reduceEqDiff, Nat.reduceMul, Nat.reduceLeDiff, reduceIte, Nat.reduceBEq, reduceCtorEq, evP_D, evD_guard, evD_cons, evD_zero, evD_nil]
      exact ⟨0, Nat.zero_le _, rfl⟩
    · rintro σ ⟨k, hkl, rfl⟩
      by_cases hlt : k < A.length
      case neg =>
        have hk' : k = A.length := by omega
        subst hk'
        have hlt' : ¬ ((A.length : Int) < A.length) := by omega
        rw [List.take_length]
        rw [hnil]
        unfold clSt
        simp (disch := (first | omega | assumption)) only [hlt', go_sem, Int.reduceEq, Int.reduceLT, Int.reduceLE, Int.reduceNeg, Nat.reduceAdd, Nat.reduceLT, Nat.reduceEqDiff, Nat.reduceMul, Nat.reduceLeDiff, reduceIte, Nat.reduceBEq, reduceCtorEq, evP_D, evD_guard, evD_cons, evD_zero, evD_nil]
      have hlt' : (k : Int) < A.length := by omega
      obtain ⟨⟨c, kd⟩, hcn⟩ : ∃ p, A[k]? = some p := ⟨_, List.getElem?_eq_getElem hlt⟩
      have hg := acV_get hcn
      have hO := hOF c
      have hb := ofB_bd c 0 day hEn h3
      have hL1 := clsL_succ (E := E) (day := day) hcn
      have hS1 := clsS_succ (E := E) (day := day) hcn
      have hsb : -17280000000000000 ≤ clsS E day (A.take k) ∧ clsS E day (A.take k) ≤ 17280000000000000 := by
        have h1 := hS (A.take k)
        have h2 : (A.take k).length ≤ 24 := by rw [List.length_take]; omega
        omega
      have hll := clsL_len E day A k
      have hms : A.length - ((k : Int) + 1).toNat < A.length - (k : Int).toNat := by
        have e3 : ((k : Int) + 1).toNat = k + 1 := by omega
        rw [e3, Int.toNat_natCast]; exact Nat.sub_lt_sub_left hlt (Nat.lt_succ_self k)
      by_cases hn : ofB c 0 day E = 0
      · have hcb : clsB E day (c, kd) = false := by simp [clsB, hn]
        rw [hcb] at hL1 hS1
        simp only [Bool.false_eq_true, if_false, List.append_nil, Int.add_zero] at hL1 hS1
        cases hL : clsL E day (A.take k) with
        | nil =>
          rw [hL] at hL1
          unfold clSt
          simp (disch := (first | omega | assumption)) only [hlt', idx_nat, List.length_map, hg, hO, hn, go_sem, Int.reduceEq, Int.reduceLT, Int.reduceLE, Int.reduceNeg, Nat.reduceAdd, Nat.reduceLT, Nat.reduceEqDiff, Nat.reduceMul, Nat.reduceLeDiff, reduceIte, Nat.reduceBEq, reduceCtorEq, evP_D, evD_guard, evD_cons, evD_zero, evD_nil]
          exact ⟨⟨k + 1, hlt, by rw [hL1]; simp only [clSt, hS1]; rfl⟩, hms⟩
        | cons p r =>
          rw [hL] at hL1
          unfold clSt
          simp (disch := (first | omega | assumption)) only [hlt', idx_nat, List.length_map, hg, hO, hn, go_sem, Int.reduceEq, Int.reduceLT, Int.reduceLE, Int.reduceNeg, Nat.reduceAdd, Nat.reduceLT, Nat.reduceEqDiff, Nat.reduceMul, Nat.reduceLeDiff, reduceIte, Nat.reduceBEq, reduceCtorEq, evP_D, evD_guard, evD_cons, evD_zero, evD_nil]
          exact ⟨⟨k + 1, hlt, by rw [hL1]; simp only [clSt, hS1]; rfl⟩, hms⟩
      by_cases hk34 : kd = 3 ∨ kd = 4
      · have hcb : clsB E day (c, kd) = true := by
          unfold clsB
          rcases hk34 with rfl | rfl <;> simp [hn]
        rw [hcb] at hL1 hS1
        simp only [if_true] at hL1 hS1
        cases hL : clsL E day (A.take k) with
        | nil =>
          rw [hL] at hL1 hll
          unfold clSt
          rcases hk34 with rfl | rfl
          · simp (disch := (first | omega | assumption)) only [hlt', idx_nat, List.length_map, hg, hO, hn, Int.zero_sub, go_sem, Int.reduceEq, Int.reduceLT, Int.reduceLE, Int.reduceNeg, Nat.reduceAdd, Nat.reduceLT, Nat.reduceEqDiff, Nat.reduceMul, Nat.reduceLeDiff, reduceIte, Nat.reduceBEq, reduceCtorEq, evP_D, evD_guard, evD_cons, evD_zero, evD_nil]
            exact ⟨⟨k + 1, hlt, by rw [hL1]; simp only [clSt, hS1]; rfl⟩, hms⟩
          · simp (disch := (first | omega | assumption)) only [hlt', idx_nat, List.length_map, hg, hO, hn, Int.zero_sub, go_sem, Int.reduceEq, Int.reduceLT, Int.reduceLE, Int.reduceNeg, Nat.reduceAdd, Nat.reduceLT, Nat.reduceEqDiff, Nat.reduceMul, Nat.reduceLeDiff, reduceIte, Nat.reduceBEq, reduceCtorEq, evP_D, evD_guard, evD_cons, evD_zero, evD_nil]
            exact ⟨⟨k + 1, hlt, by rw [hL1]; simp only [clSt, hS1]; rfl⟩, hms⟩
        | cons p r =>
          rw [hL] at hL1 hll
          rw [List.length_cons] at hll
          unfold clSt
          rcases hk34 with rfl | rfl
          · simp (disch := (first | omega | assumption)) only [hlt', idx_nat, List.length_map, List.length_append, List.length_cons, List.length_nil, hg, hO, hn, Int.zero_sub, go_sem, Int.reduceEq, Int.reduceLT, Int.reduceLE, Int.reduceNeg, Nat.reduceAdd, Nat.reduceLT, Nat.reduceEqDiff, Nat.reduceMul, Nat.reduceLeDiff, reduceIte, Nat.reduceBEq, reduceCtorEq, evP_D, evD_guard, evD_cons, evD_zero, evD_nil]
            exact ⟨⟨k + 1, hlt, by rw [hL1]; simp only [clSt, hS1, List.cons_append, List.map_cons, List.map_append]; rfl⟩, hms⟩
          · simp (disch := (first | omega | assumption)) only [hlt', idx_nat, List.length_map, List.length_append, List.length_cons, List.length_nil, hg, hO, hn, Int.zero_sub, go_sem, Int.reduceEq, Int.reduceLT, Int.reduceLE, Int.reduceNeg, Nat.reduceAdd, Nat.reduceLT, Nat.reduceEqDiff, Nat.reduceMul, Nat.reduceLeDiff, reduceIte, Nat.reduceBEq, reduceCtorEq, evP_D, evD_guard, evD_cons, evD_zero, evD_nil]
            exact ⟨⟨k + 1, hlt, by rw [hL1]; simp only [clSt, hS1, List.cons_append, List.map_cons, List.map_append]; rfl⟩, hms⟩
      · have hk3 : ¬ kd = 3 := fun h => hk34 (.inl h)
        have hk4 : ¬ kd = 4 := fun h => hk34 (.inr h)
        have hcb : clsB E day (c, kd) = false := by simp [clsB, hk3, hk4]
        rw [hcb] at hL1 hS1
        simp only [Bool.false_eq_true, if_false, List.append_nil, Int.add_zero] at hL1 hS1
        cases hL : clsL E day (A.take k) with
        | nil =>
          rw [hL] at hL1
          unfold clSt
          simp (disch := (first | omega | assumption)) only [hlt', idx_nat, List.length_map, hg, hO, hn, hk3, hk4, go_sem, Int.reduceEq, Int.reduceLT, Int.reduceLE, Int.reduceNeg, Nat.reduceAdd, Nat.reduceLT, Nat.reduceEqDiff, Nat.reduceMul, Nat.reduceLeDiff, reduceIte, Nat.reduceBEq, reduceCtorEq, evP_D, evD_guard, evD_cons, evD_zero, evD_nil]
          exact ⟨⟨k + 1, hlt, by rw [hL1]; simp only [clSt, hS1]; rfl⟩, hms⟩
        | cons p r =>
          rw [hL] at hL1
          unfold clSt
          simp (disch := (first | omega | assumption)) only [hlt', idx_nat, List.length_map, hg, hO, hn, hk3, hk4, go_sem, Int.reduceEq, Int.reduceLT, Int.reduceLE, Int.reduceNeg, Nat.reduceAdd, Nat.reduceLT, Nat.reduceEqDiff, Nat.reduceMul, Nat.reduceLeDiff, reduceIte, Nat.reduceBEq, reduceCtorEq, evP_D, evD_guard, evD_cons, evD_zero, evD_nil]
          exact ⟨⟨k + 1, hlt, by rw [hL1]; simp only [clSt, hS1]; rfl⟩, hms⟩
  rw [if_neg hnil] at e0
  by_cases hq : postE A E s X = 0
  case neg =>
    rw [if_pos hq] at e0
    have eR : clV A E s key day code = .tup [.agg [.zero, .zero, .int .i64 0], .int .i64 (postE A E s X)] := by unfold clV; rw [e0, if_neg hq]; rfl
    have hP := hposE _ rfl
    rw [if_neg hq] at hP
    unfold zbV at hP
    rw [eR]
    generalize postE A E s X = q at *
    refine evFn (l := [(20, at1 _ (_, [])), (21, dayF), (41, at1 _ (_, [])), (42, OF), (36, at1 _ (_, []))]) (nv := nv0) (fz := fzL [(102, [624])]) (dr := dr15) (dd := dd15) (lam := []) (ms := ms0) ⟨at1_snd hB, is_snd hJ, at1_snd hK, hOFs, at1_snd hP, trivial⟩ hJ trivial ms0_ok Tryd.func15 rfl rfl (Nat.le_of_ble_eq_true rfl) (Nat.le_of_ble_eq_true rfl) drOk15 ?_
    dsimp only [Tryd.f15, dr15, dd15, Option.getD_some]
    refine ev_start ?_
    simp (disch := omega) only [at1_eq, dayF_eq, hz, hd', List.length_map, go_sem, Int.reduceEq, Int.reduceLT, Int.reduceLE, Int.reduceNeg, Nat.reduceAdd, Nat.reduceLT, Nat.reduceEqDiff, Nat.reduceMul, Nat.reduceLeDiff, reduceIte, Nat.reduceBEq, reduceCtorEq, evP_D, evD_guard, evD_cons, evD_zero, evD_nil]
    refine evQ_loop [2, 3, 4, 8, 13, 14, 47, 48, 49] [32, 64, 104, 624] (fun σ => ∃ (k : Nat), k ≤ A.length ∧ σ = clSt A E s key day code k (clsL E day (A.take k)))
      (fun σ => A.length - (match Ev.look 49 σ.env with | some (.int _ n) => n.toNat | _ => 0)) ?_ ?_
    · simp only [go_sem, Int.reduceEq, Int.reduceLT, Int.reduceLE, Int.reduceNeg, Nat.reduceAdd, Nat.reduceLT, Nat.reduceEqDiff, Nat.reduceMul, Nat.reduceLeDiff, reduceIte, Nat.reduceBEq, reduceCtorEq, evP_D, evD_guard, evD_cons, evD_zero, evD_nil]
      exact ⟨0, Nat.zero_le _, rfl⟩
    · rintro σ ⟨k, hkl, rfl⟩
      by_cases hlt : k < A.length
      case neg =>
        have hk' : k = A.length := by omega
        subst hk'
        have hlt' : ¬ ((A.length : Int) < A.length) := by omega
        rw [List.take_length]
        obtain ⟨p, r, hpr⟩ : ∃ p r, clsL E day A = p :: r := by
          cases h : clsL E day A with
          | nil => exact absurd h hnil
          | cons p r => exact ⟨p, r, rfl⟩
        have hll : r.length ≤ 24 := by
          have := clsL_len E day A A.length
          rw [List.take_length, hpr, List.length_cons] at this
          omega
        have hXl : X.2.2 = clsL E day A ++ if clsS E day A ≠ 0 then [(code, clsS E day A)] else [] := by rw [hX]; rfl
        have hsb : -17280000000000000 ≤ clsS E day A ∧ clsS E day A ≤ 17280000000000000 := by
          have h1 := hS A
          omega
        have hrl : ¬ (((r.length + 1 : Nat) : Int) = 0) := by omega
        rw [hpr]
        unfold clSt
        rw [List.take_length]
        by_cases hs0 : clsS E day A = 0
        · have hX2 : X.2.2.map acV = (p :: r).map acV := by rw [hXl, hpr, if_neg (fun h => h hs0), List.append_nil]
          simp (disch := (first | omega | assumption)) only [at1_eq, hlt', hX2, hs0, hrl, List.length_map, List.length_append, List.length_cons, List.length_nil, freezeL, St.freeze, List.filter_cons, List.filter_nil, bne, hq, go_sem, Int.reduceEq, Int.reduceLT, Int.reduceLE, Int.reduceNeg, Nat.reduceAdd, Nat.reduceLT, Nat.reduceEqDiff, Nat.reduceMul, Nat.reduceLeDiff, reduceIte, Nat.reduceBEq, reduceCtorEq, evP_D, evD_guard, evD_cons, evD_zero, evD_nil]
        · have hX2 : X.2.2.map acV = acV p :: (r.map acV ++ [.agg [.str code, .int .i64 (clsS E day A)]]) := by rw [hXl, hpr, if_pos hs0, List.map_append]; rfl
          simp (disch := (first | omega | assumption)) only [at1_eq, hlt', hX2, hs0, hrl, List.length_map, List.length_append, List.length_cons, List.length_nil, freezeL, St.freeze, List.filter_cons, List.filter_nil, bne, hq, go_sem, Int.reduceEq, Int.reduceLT, Int.reduceLE, Int.reduceNeg, Nat.reduceAdd, Nat.reduceLT, Nat.reduceEqDiff, Nat.reduceMul, Nat.reduceLeDiff, reduceIte, Nat.reduceBEq, reduceCtorEq, evP_D, evD_guard, evD_cons, evD_zero, evD_nil]
      have hlt' : (k : Int) < A.length := by omega
      obtain ⟨⟨c, kd⟩, hcn⟩ : ∃ p, A[k]? = some p := ⟨_, List.getElem?_eq_getElem hlt⟩
      have hg := acV_get hcn
      have hO := hOF c
      have hb := ofB_bd c 0 day hEn h3
      have hL1 := clsL_succ (E := E) (day := day) hcn
      have hS1 := clsS_succ (E := E) (day := day) hcn
      have hsb : -17280000000000000 ≤ clsS E day (A.take k) ∧ clsS E day (A.take k) ≤ 17280000000000000 := by
        have h1 := hS (A.take k)
        have h2 : (A.take k).length ≤ 24 := by rw [List.length_take]; omega
        omega
      have hll := clsL_len E day A k
      have hms : A.length - ((k : Int) + 1).toNat < A.length - (k : Int).toNat := by
        have e3 : ((k : Int) + 1).toNat = k + 1 := by omega
        rw [e3, Int.toNat_natCast]; exact Nat.sub_lt_sub_left hlt (Nat.lt_succ_self k)
      by_cases hn : ofB c 0 day E = 0
      · have hcb : clsB E day (c, kd) = false := by simp [clsB, hn]
        rw [hcb] at hL1 hS1
        simp only [Bool.false_eq_true, if_false, List.append_nil, Int.add_zero] at hL1 hS1
        cases hL : clsL E day (A.take k) with
        | nil =>
          rw [hL] at hL1
          unfold clSt
          simp (disch := (first | omega | assumption)) only [hlt', idx_nat, List.length_map, hg, hO, hn, go_sem, Int.reduceEq, Int.reduceLT, Int.reduceLE, Int.reduceNeg, Nat.reduceAdd, Nat.reduceLT, Nat.reduceEqDiff, Nat.reduceMul, Nat.reduceLeDiff, reduceIte, Nat.reduceBEq, reduceCtorEq, evP_D, evD_guard, evD_cons, evD_zero, evD_nil]
          exact ⟨⟨k + 1, hlt, by rw [hL1]; simp only [clSt, hS1]; rfl⟩, hms⟩
        | cons p r =>
          rw [hL] at hL1
          unfold clSt
          simp (disch := (first | omega | assumption)) only [hlt', idx_nat, List.length_map, hg, hO, hn, go_sem, Int.reduceEq, Int.reduceLT, Int.reduceLE, Int.reduceNeg, Nat.reduceAdd, Nat.reduceLT, Nat.reduceEqDiff, Nat.reduceMul, Nat.reduceLeDiff, reduceIte, Nat.reduceBEq, reduceCtorEq, evP_D, evD_guard, evD_cons, evD_zero, evD_nil]
          exact ⟨⟨k + 1, hlt, by rw [hL1]; simp only [clSt, hS1]; rfl⟩, hms⟩
      by_cases hk34 : kd = 3 ∨ kd = 4
      · have hcb : clsB E day (c, kd) = true := by
          unfold clsB
          rcases hk34 with rfl | rfl <;> simp [hn]
        rw [hcb] at hL1 hS1
        simp only [if_true] at hL1 hS1
        cases hL : clsL E day (A.take k) with
        | nil =>
          rw [hL] at hL1 hll
          unfold clSt
          rcases hk34 with rfl | rfl
          · simp (disch := (first | omega | assumption)) only [hlt', idx_nat, List.length_map, hg, hO, hn, Int.zero_sub, go_sem, Int.reduceEq, Int.reduceLT, Int.reduceLE, Int.reduceNeg, Nat.reduceAdd, Nat.reduceLT, Nat.reduceEqDiff, Nat.reduceMul, Nat.reduceLeDiff, reduceIte, Nat.reduceBEq, reduceCtorEq, evP_D, evD_guard, evD_cons, evD_zero, evD_nil]
            exact ⟨⟨k + 1, hlt, by rw [hL1]; simp only [clSt, hS1]; rfl⟩, hms⟩
          · simp (disch := (first | omega | assumption)) only [hlt', idx_nat, List.length_map, hg, hO, hn, Int.zero_sub, go_sem, Int.reduceEq, Int.reduceLT, Int.reduceLE, Int.reduceNeg, Nat.reduceAdd, Nat.reduceLT, Nat.reduceEqDiff, Nat.reduceMul, Nat.reduceLeDiff, reduceIte, Nat.reduceBEq, reduceCtorEq, evP_D, evD_guard, evD_cons, evD_zero, evD_nil]
            exact ⟨⟨k + 1, hlt, by rw [hL1]; simp only [clSt, hS1]; rfl⟩, hms⟩
        | cons p r =>
          rw [hL] at hL1 hll
          rw [List.length_cons] at hll
          unfold clSt
          rcases hk34 with rfl | rfl
          · simp (disch := (first | omega | assumption)) only [hlt', idx_nat, List.length_map, List.length_append, List.length_cons, List.length_nil, hg, hO, hn, Int.zero_sub, go_sem, Int.reduceEq, Int.reduceLT, Int.reduceLE, Int.reduceNeg, Nat.reduceAdd, Nat.reduceLT, Nat.reduceEqDiff, Nat.reduceMul, Nat.reduceLeDiff, reduceIte, Nat.reduceBEq, reduceCtorEq, evP_D, evD_guard, evD_cons, evD_zero, evD_nil]
            exact ⟨⟨k + 1, hlt, by rw [hL1]; simp only [clSt, hS1, List.cons_append, List.map_cons, List.map_append]; rfl⟩, hms⟩
          · simp (disch := (first | omega | assumption)) only [hlt', idx_nat, List.length_map, List.length_append, List.length_cons, List.length_nil, hg, hO, hn, Int.zero_sub, go_sem, Int.reduceEq, Int.reduceLT, Int.reduceLE, Int.reduceNeg, Nat.reduceAdd, Nat.reduceLT, Nat.reduceEqDiff, Nat.reduceMul, Nat.reduceLeDiff, reduceIte, Nat.reduceBEq, reduceCtorEq, evP_D, evD_guard, evD_cons, evD_zero, evD_nil]
            exact ⟨⟨k + 1, hlt, by rw [hL1]; simp only [clSt, hS1, List.cons_append, List.map_cons, List.map_append]; rfl⟩, hms⟩
      · have hk3 : ¬ kd = 3 := fun h => hk34 (.inl h)
        have hk4 : ¬ kd = 4 := fun h => hk34 (.inr h)
        have hcb : clsB E day (c, kd) = false := by simp [clsB, hk3, hk4]
        rw [hcb] at hL1 hS1
        simp only [Bool.false_eq_true, if_false, List.append_nil, Int.add_zero] at hL1 hS1
        cases hL : clsL E day (A.take k) with
        | nil =>
          rw [hL] at hL1
          unfold clSt
          simp (disch := (first | omega | assumption)) only [hlt', idx_nat, List.length_map, hg, hO, hn, hk3, hk4, go_sem, Int.reduceEq, Int.reduceLT, Int.reduceLE, Int.reduceNeg, Nat.reduceAdd, Nat.reduceLT, Nat.reduceEqDiff, Nat.reduceMul, Nat.reduceLeDiff, reduceIte, Nat.reduceBEq, reduceCtorEq, evP_D, evD_guard, evD_cons, evD_zero, evD_nil]
          exact ⟨⟨k + 1, hlt, by rw [hL1]; simp only [clSt, hS1]; rfl⟩, hms⟩
        | cons p r =>
          rw [hL] at hL1
          unfold clSt
          simp (disch := (first | omega | assumption)) only [hlt', idx_nat, List.length_map, hg, hO, hn, hk3, hk4, go_sem, Int.reduceEq, Int.reduceLT, Int.reduceLE, Int.reduceNeg, Nat.reduceAdd, Nat.reduceLT, Nat.reduceEqDiff, Nat.reduceMul, Nat.reduceLeDiff, reduceIte, Nat.reduceBEq, reduceCtorEq, evP_D, evD_guard, evD_cons, evD_zero, evD_nil]
          exact ⟨⟨k + 1, hlt, by rw [hL1]; simp only [clSt, hS1]; rfl⟩, hms⟩
  rw [if_neg (fun h => h hq)] at e0
  have hP := hposE 0 hq
  rw [if_pos rfl] at hP
  have hSh := hSh hq
  by_cases hds : day < s
  · rw [if_pos hds] at e0
    have eR : clV A E s key day code = .tup [.agg [.zero, .zero, .int .i64 0], .int .i64 9] := by unfold clV; rw [e0]; rfl
    rw [if_pos hds, if_pos hds] at hSh
    unfold zbV at hSh
    unfold bkV at hSh hP
    rw [eR]
    refine evFn (l := [(20, at1 _ (_, [])), (21, dayF), (41, at1 _ (_, [])), (42, OF), (36, at1 _ (_, [])), (43, at1 _ (_, []))]) (nv := nv0) (fz := fzL [(102, [624])]) (dr := dr15) (dd := dd15) (lam := []) (ms := ms0) ⟨at1_snd hB, is_snd hJ, at1_snd hK, hOFs, at1_snd hP, at1_snd hSh, trivial⟩ hJ trivial ms0_ok Tryd.func15 rfl rfl (Nat.le_of_ble_eq_true rfl) (Nat.le_of_ble_eq_true rfl) drOk15 ?_
    dsimp only [Tryd.f15, dr15, dd15, Option.getD_some]
    refine ev_start ?_
    simp (disch := omega) only [at1_eq, dayF_eq, hz, hd', List.length_map, go_sem, Int.reduceEq, Int.reduceLT, Int.reduceLE, Int.reduceNeg, Nat.reduceAdd, Nat.reduceLT, Nat.reduceEqDiff, Nat.reduceMul, Nat.reduceLeDiff, reduceIte, Nat.reduceBEq, reduceCtorEq, evP_D, evD_guard, evD_cons, evD_zero, evD_nil]
    refine evQ_loop [2, 3, 4, 8, 13, 14, 47, 48, 49] [32, 64, 104, 624] (fun σ => ∃ (k : Nat), k ≤ A.length ∧ σ = clSt A E s key day code k (clsL E day (A.take k)))
      (fun σ => A.length - (match Ev.look 49 σ.env with | some (.int _ n) => n.toNat | _ => 0)) ?_ ?_
    · simp only [go_sem, Int.reduceEq, Int.reduceLT, Int.reduceLE, Int.reduceNeg, Nat.reduceAdd, Nat.reduceLT, Nat.reduceEqDiff, Nat.reduceMul, Nat.reduceLeDiff, reduceIte, Nat.reduceBEq, reduceCtorEq, evP_D, evD_guard, evD_cons, evD_zero, evD_nil]
      exact ⟨0, Nat.zero_le _, rfl⟩
    · rintro σ ⟨k, hkl, rfl⟩
      by_cases hlt : k < A.length
      case neg =>
        have hk' : k = A.length := by omega
        subst hk'
        have hlt' : ¬ ((A.length : Int) < A.length) := by omega
        rw [List.take_length]
        obtain ⟨p, r, hpr⟩ : ∃ p r, clsL E day A = p :: r := by
          cases h : clsL E day A with
          | nil => exact absurd h hnil
          | cons p r => exact ⟨p, r, rfl⟩
        have hll : r.length ≤ 24 := by
          have := clsL_len E day A A.length
          rw [List.take_length, hpr, List.length_cons] at this
          omega
        have hXl : X.2.2 = clsL E day A ++ if clsS E day A ≠ 0 then [(code, clsS E day A)] else [] := by rw [hX]; rfl
        have hsb : -17280000000000000 ≤ clsS E day A ∧ clsS E day A ≤ 17280000000000000 := by
          have h1 := hS A
          omega
        have hrl : ¬ (((r.length + 1 : Nat) : Int) = 0) := by omega
        rw [hpr]
        unfold clSt
        rw [List.take_length]
        by_cases hs0 : clsS E day A = 0
        · have hX2 : X.2.2.map acV = (p :: r).map acV := by rw [hXl, hpr, if_neg (fun h => h hs0), List.append_nil]
          simp (disch := (first | omega | assumption)) only [at1_eq, hlt', hX2, hs0, hrl, List.length_map, List.length_append, List.length_cons, List.length_nil, freezeL, St.freeze, List.filter_cons, List.filter_nil, bne, hz, go_sem, Int.reduceEq, Int.reduceLT, Int.reduceLE, Int.reduceNeg, Nat.reduceAdd, Nat.reduceLT, Nat.reduceEqDiff, Nat.reduceMul, Nat.reduceLeDiff, reduceIte, Nat.reduceBEq, reduceCtorEq, evP_D, evD_guard, evD_cons, evD_zero, evD_nil]
        · have hX2 : X.2.2.map acV = acV p :: (r.map acV ++ [.agg [.str code, .int .i64 (clsS E day A)]]) := by rw [hXl, hpr, if_pos hs0, List.map_append]; rfl
          simp (disch := (first | omega | assumption)) only [at1_eq, hlt', hX2, hs0, hrl, List.length_map, List.length_append, List.length_cons, List.length_nil, freezeL, St.freeze, List.filter_cons, List.filter_nil, bne, hz, go_sem, Int.reduceEq, Int.reduceLT, Int.reduceLE, Int.reduceNeg, Nat.reduceAdd, Nat.reduceLT, Nat.reduceEqDiff, Nat.reduceMul, Nat.reduceLeDiff, reduceIte, Nat.reduceBEq, reduceCtorEq, evP_D, evD_guard, evD_cons, evD_zero, evD_nil]
      have hlt' : (k : Int) < A.length := by omega
      obtain ⟨⟨c, kd⟩, hcn⟩ : ∃ p, A[k]? = some p := ⟨_, List.getElem?_eq_getElem hlt⟩
      have hg := acV_get hcn
      have hO := hOF c
      have hb := ofB_bd c 0 day hEn h3
      have hL1 := clsL_succ (E := E) (day := day) hcn
      have hS1 := clsS_succ (E := E) (day := day) hcn
      have hsb : -17280000000000000 ≤ clsS E day (A.take k) ∧ clsS E day (A.take k) ≤ 17280000000000000 := by
        have h1 := hS (A.take k)
        have h2 : (A.take k).length ≤ 24 := by rw [List.length_take]; omega
        omega
      have hll := clsL_len E day A k
      have hms : A.length - ((k : Int) + 1).toNat < A.length - (k : Int).toNat := by
        have e3 : ((k : Int) + 1).toNat = k + 1 := by omega
        rw [e3, Int.toNat_natCast]; exact Nat.sub_lt_sub_left hlt (Nat.lt_succ_self k)
      by_cases hn : ofB c 0 day E = 0
      · have hcb : clsB E day (c, kd) = false := by simp [clsB, hn]
        rw [hcb] at hL1 hS1
        simp only [Bool.false_eq_true, if_false, List.append_nil, Int.add_zero] at hL1 hS1
        cases hL : clsL E day (A.take k) with
        | nil =>
          rw [hL] at hL1
          unfold clSt
          simp (disch := (first | omega | assumption)) only [hlt', idx_nat, List.length_map, hg, hO, hn, go_sem, Int.reduceEq, Int.reduceLT, Int.reduceLE, Int.reduceNeg, Nat.reduceAdd, Nat.reduceLT, Nat.reduceEqDiff, Nat.reduceMul, Nat.reduceLeDiff, reduceIte, Nat.reduceBEq, reduceCtorEq, evP_D, evD_guard, evD_cons, evD_zero, evD_nil]
          exact ⟨⟨k + 1, hlt, by rw [hL1]; simp only [clSt, hS1]; rfl⟩, hms⟩
        | cons p r =>
          rw [hL] at hL1
          unfold clSt
          simp (disch := (first | omega | assumption)) only [hlt', idx_nat, List.length_map, hg, hO, hn, go_sem, Int.reduceEq, Int.reduceLT, Int.reduceLE, Int.reduceNeg, Nat.reduceAdd, Nat.reduceLT, Nat.reduceEqDiff, Nat.reduceMul, Nat.reduceLeDiff, reduceIte, Nat.reduceBEq, reduceCtorEq, evP_D, evD_guard, evD_cons, evD_zero, evD_nil]
          exact ⟨⟨k + 1, hlt, by rw [hL1]; simp only [clSt, hS1]; rfl⟩, hms⟩
      by_cases hk34 : kd = 3 ∨ kd = 4
      · have hcb : clsB E day (c, kd) = true := by
          unfold clsB
          rcases hk34 with rfl | rfl <;> simp [hn]
        rw [hcb] at hL1 hS1
        simp only [if_true] at hL1 hS1
        cases hL : clsL E day (A.take k) with
        | nil =>
          rw [hL] at hL1 hll
          unfold clSt
          rcases hk34 with rfl | rfl
          · simp (disch := (first | omega | assumption)) only [hlt', idx_nat, List.length_map, hg, hO, hn, Int.zero_sub, go_sem, Int.reduceEq, Int.reduceLT, Int.reduceLE, Int.reduceNeg, Nat.reduceAdd, Nat.reduceLT, Nat.reduceEqDiff, Nat.reduceMul, Nat.reduceLeDiff, reduceIte, Nat.reduceBEq, reduceCtorEq, evP_D, evD_guard, evD_cons, evD_zero, evD_nil]
            exact ⟨⟨k + 1, hlt, by rw [hL1]; simp only [clSt, hS1]; rfl⟩, hms⟩
          · simp (disch := (first | omega | assumption)) only [hlt', idx_nat, List.length_map, hg, hO, hn, Int.zero_sub, go_sem, Int.reduceEq, Int.reduceLT, Int.reduceLE, Int.reduceNeg, Nat.reduceAdd, Nat.reduceLT, Nat.reduceEqDiff, Nat.reduceMul, Nat.reduceLeDiff, reduceIte, Nat.reduceBEq, reduceCtorEq, evP_D, evD_guard, evD_cons, evD_zero, evD_nil]
            exact ⟨⟨k + 1, hlt, by rw [hL1]; simp only [clSt, hS1]; rfl⟩, hms⟩
        | cons p r =>
          rw [hL] at hL1 hll
          rw [List.length_cons] at hll
          unfold clSt
          rcases hk34 with rfl | rfl
          · simp (disch := (first | omega | assumption)) only [hlt', idx_nat, List.length_map, List.length_append, List.length_cons, List.length_nil, hg, hO, hn, Int.zero_sub, go_sem, Int.reduceEq, Int.reduceLT, Int.reduceLE, Int.reduceNeg, Nat.reduceAdd, Nat.reduceLT, Nat.reduceEqDiff, Nat.reduceMul, Nat.reduceLeDiff, reduceIte, Nat.reduceBEq, reduceCtorEq, evP_D, evD_guard, evD_cons, evD_zero, evD_nil]
            exact ⟨⟨k + 1, hlt, by rw [hL1]; simp only [clSt, hS1, List.cons_append, List.map_cons, List.map_append]; rfl⟩, hms⟩
          · simp (disch := (first | omega | assumption)) only [hlt', idx_nat, List.length_map, List.length_append, List.length_cons, List.length_nil, hg, hO, hn, Int.zero_sub, go_sem, Int.reduceEq, Int.reduceLT, Int.reduceLE, Int.reduceNeg, Nat.reduceAdd, Nat.reduceLT, Nat.reduceEqDiff, Nat.reduceMul, Nat.reduceLeDiff, reduceIte, Nat.reduceBEq, reduceCtorEq, evP_D, evD_guard, evD_cons, evD_zero, evD_nil]
            exact ⟨⟨k + 1, hlt, by rw [hL1]; simp only [clSt, hS1, List.cons_append, List.map_cons, List.map_append]; rfl⟩, hms⟩
      · have hk3 : ¬ kd = 3 := fun h => hk34 (.inl h)
        have hk4 : ¬ kd = 4 := fun h => hk34 (.inr h)
        have hcb : clsB E day (c, kd) = false := by simp [clsB, hk3, hk4]
        rw [hcb] at hL1 hS1
        simp only [Bool.false_eq_true, if_false, List.append_nil, Int.add_zero] at hL1 hS1
        cases hL : clsL E day (A.take k) with
        | nil =>
          rw [hL] at hL1
          unfold clSt
          simp (disch := (first | omega | assumption)) only [hlt', idx_nat, List.length_map, hg, hO, hn, hk3, hk4, go_sem, Int.reduceEq, Int.reduceLT, Int.reduceLE, Int.reduceNeg, Nat.reduceAdd, Nat.reduceLT, Nat.reduceEqDiff, Nat.reduceMul, Nat.reduceLeDiff, reduceIte, Nat.reduceBEq, reduceCtorEq, evP_D, evD_guard, evD_cons, evD_zero, evD_nil]
          exact ⟨⟨k + 1, hlt, by rw [hL1]; simp only [clSt, hS1]; rfl⟩, hms⟩
        | cons p r =>
          rw [hL] at hL1
          unfold clSt
          simp (disch := (first | omega | assumption)) only [hlt', idx_nat, List.length_map, hg, hO, hn, hk3, hk4, go_sem, Int.reduceEq, Int.reduceLT, Int.reduceLE, Int.reduceNeg, Nat.reduceAdd, Nat.reduceLT, Nat.reduceEqDiff, Nat.reduceMul, Nat.reduceLeDiff, reduceIte, Nat.reduceBEq, reduceCtorEq, evP_D, evD_guard, evD_cons, evD_zero, evD_nil]
          exact ⟨⟨k + 1, hlt, by rw [hL1]; simp only [clSt, hS1]; rfl⟩, hms⟩
  · rw [if_neg hds] at e0
    have eR : clV A E s key day code = .tup [.agg [.row 2 (A.map acV), .row 3 ((postB E X).map enW), .int .i64 day], .int .i64 0] := by unfold clV; rw [e0, if_pos rfl, ← hX]; rfl
    rw [if_neg hds, if_neg hds] at hSh
    unfold bkV at hSh hP
    rw [eR]
    refine evFn (l := [(20, at1 _ (_, [])), (21, dayF), (41, at1 _ (_, [])), (42, OF), (36, at1 _ (_, [])), (43, at1 _ (_, []))]) (nv := nv0) (fz := fzL [(102, [624])]) (dr := dr15) (dd := dd15) (lam := []) (ms := ms0) ⟨at1_snd hB, is_snd hJ, at1_snd hK, hOFs, at1_snd hP, at1_snd hSh, trivial⟩ hJ trivial ms0_ok Tryd.func15 rfl rfl (Nat.le_of_ble_eq_true rfl) (Nat.le_of_ble_eq_true rfl) drOk15 ?_
    dsimp only [Tryd.f15, dr15, dd15, Option.getD_some]
    refine ev_start ?_
    simp (disch := omega) only [at1_eq, dayF_eq, hz, hd', List.length_map, go_sem, Int.reduceEq, Int.reduceLT, Int.reduceLE, Int.reduceNeg, Nat.reduceAdd, Nat.reduceLT, Nat.reduceEqDiff, Nat.reduceMul, Nat.reduceLeDiff, reduceIte, Nat.reduceBEq, reduceCtorEq, evP_D, evD_guard, evD_cons, evD_zero, evD_nil]
    refine evQ_loop [2, 3, 4, 8, 13, 14, 47, 48, 49] [32, 64, 104, 624] (fun σ => ∃ (k : Nat), k ≤ A.length ∧ σ = clSt A E s key day code k (clsL E day (A.take k)))
      (fun σ => A.length - (match Ev.look 49 σ.env with | some (.int _ n) => n.toNat | _ => 0)) ?_ ?_
    · simp only [go_sem, Int.reduceEq, Int.reduceLT, Int.reduceLE, Int.reduceNeg, Nat.reduceAdd, Nat.reduceLT, Nat.reduceEqDiff, Nat.reduceMul, Nat.reduceLeDiff, reduceIte, Nat.reduceBEq, reduceCtorEq, evP_D, evD_guard, evD_cons, evD_zero, evD_nil]
      exact ⟨0, Nat.zero_le _, rfl⟩
    · rintro σ ⟨k, hkl, rfl⟩
      by_cases hlt : k < A.length
      case neg =>
        have hk' : k = A.length := by omega
        subst hk'
        have hlt' : ¬ ((A.length : Int) < A.length) := by omega
        rw [List.take_length]
        obtain ⟨p, r, hpr⟩ : ∃ p r, clsL E day A = p :: r := by
          cases h : clsL E day A with
          | nil => exact absurd h hnil
          | cons p r => exact ⟨p, r, rfl⟩
        have hll : r.length ≤ 24 := by
          have := clsL_len E day A A.length
          rw [List.take_length, hpr, List.length_cons] at this
          omega
        have hXl : X.2.2 = clsL E day A ++ if clsS E day A ≠ 0 then [(code, clsS E day A)] else [] := by rw [hX]; rfl
        have hsb : -17280000000000000 ≤ clsS E day A ∧ clsS E day A ≤ 17280000000000000 := by
          have h1 := hS A
          omega
        have hrl : ¬ (((r.length + 1 : Nat) : Int) = 0) := by omega
        rw [hpr]
        unfold clSt
        rw [List.take_length]
        by_cases hs0 : clsS E day A = 0
        · have hX2 : X.2.2.map acV = (p :: r).map acV := by rw [hXl, hpr, if_neg (fun h => h hs0), List.append_nil]
          simp (disch := (first | omega | assumption)) only [at1_eq, hlt', hX2, hs0, hrl, List.length_map, List.length_append, List.length_cons, List.length_nil, freezeL, St.freeze, List.filter_cons, List.filter_nil, bne, hz, go_sem, Int.reduceEq, Int.reduceLT, Int.reduceLE, Int.reduceNeg, Nat.reduceAdd, Nat.reduceLT, Nat.reduceEqDiff, Nat.reduceMul, Nat.reduceLeDiff, reduceIte, Nat.reduceBEq, reduceCtorEq, evP_D, evD_guard, evD_cons, evD_zero, evD_nil]
        · have hX2 : X.2.2.map acV = acV p :: (r.map acV ++ [.agg [.str code, .int .i64 (clsS E day A)]]) := by rw [hXl, hpr, if_pos hs0, List.map_append]; rfl
          simp (disch := (first | omega | assumption)) only [at1_eq, hlt', hX2, hs0, hrl, List.length_map, List.length_append, List.length_cons, List.length_nil, freezeL, St.freeze, List.filter_cons, List.filter_nil, bne, hz, go_sem, Int.reduceEq, Int.reduceLT, Int.reduceLE, Int.reduceNeg, Nat.reduceAdd, Nat.reduceLT, Nat.reduceEqDiff, Nat.reduceMul, Nat.reduceLeDiff, reduceIte, Nat.reduceBEq, reduceCtorEq, evP_D, evD_guard, evD_cons, evD_zero, evD_nil]
      have hlt' : (k : Int) < A.length := by omega
      obtain ⟨⟨c, kd⟩, hcn⟩ : ∃ p, A[k]? = some p := ⟨_, List.getElem?_eq_getElem hlt⟩
      have hg := acV_get hcn
      have hO := hOF c
      have hb := ofB_bd c 0 day hEn h3
      have hL1 := clsL_succ (E := E) (day := day) hcn
      have hS1 := clsS_succ (E := E) (day := day) hcn
      have hsb : -17280000000000000 ≤ clsS E day (A.take k) ∧ clsS E day (A.take k) ≤ 17280000000000000 := by
        have h1 := hS (A.take k)
        have h2 : (A.take k).length ≤ 24 := by rw [List.length_take]; omega
        omega
      have hll := clsL_len E day A k
      have hms : A.length - ((k : Int) + 1).toNat < A.length - (k : Int).toNat := by
        have e3 : ((k : Int) + 1).toNat = k + 1 := by omega
        rw [e3, Int.toNat_natCast]; exact Nat.sub_lt_sub_left hlt (Nat.lt_succ_self k)
      by_cases hn : ofB c 0 day E = 0
      · have hcb : clsB E day (c, kd) = false := by simp [clsB, hn]
        rw [hcb] at hL1 hS1
        simp only [Bool.false_eq_true, if_false, List.append_nil, Int.add_zero] at hL1 hS1
        cases hL : clsL E day (A.take k) with
        | nil =>
          rw [hL] at hL1
          unfold clSt
          simp (disch := (first | omega | assumption)) only [hlt', idx_nat, List.length_map, hg, hO, hn, go_sem, Int.reduceEq, Int.reduceLT, Int.reduceLE, Int.reduceNeg, Nat.reduceAdd, Nat.reduceLT, Nat.reduceEqDiff, Nat.reduceMul, Nat.reduceLeDiff, reduceIte, Nat.reduceBEq, reduceCtorEq, evP_D, evD_guard, evD_cons, evD_zero, evD_nil]
          exact ⟨⟨k + 1, hlt, by rw [hL1]; simp only [clSt, hS1]; rfl⟩, hms⟩
        | cons p r =>
          rw [hL] at hL1
          unfold clSt
          simp (disch := (first | omega | assumption)) only [hlt', idx_nat, List.length_map, hg, hO, hn, go_sem, Int.reduceEq, Int.reduceLT, Int.reduceLE, Int.reduceNeg, Nat.reduceAdd, Nat.reduceLT, Nat.reduceEqDiff, Nat.reduceMul, Nat.reduceLeDiff, reduceIte, Nat.reduceBEq, reduceCtorEq, evP_D, evD_guard, evD_cons, evD_zero, evD_nil]
          exact ⟨⟨k + 1, hlt, by rw [hL1]; simp only [clSt, hS1]; rfl⟩, hms⟩
      by_cases hk34 : kd = 3 ∨ kd = 4
      · have hcb : clsB E day (c, kd) = true := by
          unfold clsB
          rcases hk34 with rfl | rfl <;> simp [hn]
        rw [hcb] at hL1 hS1
        simp only [if_true] at hL1 hS1
        cases hL : clsL E day (A.take k) with
        | nil =>
          rw [hL] at hL1 hll
          unfold clSt
          rcases hk34 with rfl | rfl
          · simp (disch := (first | omega | assumption)) only [hlt', idx_nat, List.length_map, hg, hO, hn, Int.zero_sub, go_sem, Int.reduceEq, Int.reduceLT, Int.reduceLE, Int.reduceNeg, Nat.reduceAdd, Nat.reduceLT, Nat.reduceEqDiff, Nat.reduceMul, Nat.reduceLeDiff, reduceIte, Nat.reduceBEq, reduceCtorEq, evP_D, evD_guard, evD_cons, evD_zero, evD_nil]
            exact ⟨⟨k + 1, hlt, by rw [hL1]; simp only [clSt, hS1]; rfl⟩, hms⟩
          · simp (disch := (first | omega | assumption)) only [hlt', idx_nat, List.length_map, hg, hO, hn, Int.zero_sub, go_sem, Int.reduceEq, Int.reduceLT, Int.reduceLE, Int.reduceNeg, Nat.reduceAdd, Nat.reduceLT, Nat.reduceEqDiff, Nat.reduceMul, Nat.reduceLeDiff, reduceIte, Nat.reduceBEq, reduceCtorEq, evP_D, evD_guard, evD_cons, evD_zero, evD_nil]
            exact ⟨⟨k + 1, hlt, by rw [hL1]; simp only [clSt, hS1]; rfl⟩, hms⟩
        | cons p r =>
          rw [hL] at hL1 hll
          rw [List.length_cons] at hll
          unfold clSt
          rcases hk34 with rfl | rfl
          · simp (disch := (first | omega | assumption)) only [hlt', idx_nat, List.length_map, List.length_append, List.length_cons, List.length_nil, hg, hO, hn, Int.zero_sub, go_sem, Int.reduceEq, Int.reduceLT, Int.reduceLE, Int.reduceNeg, Nat.reduceAdd, Nat.reduceLT, Nat.reduceEqDiff, Nat.reduceMul, Nat.reduceLeDiff, reduceIte, Nat.reduceBEq, reduceCtorEq, evP_D, evD_guard, evD_cons, evD_zero, evD_nil]
            exact ⟨⟨k + 1, hlt, by rw [hL1]; simp only [clSt, hS1, List.cons_append, List.map_cons, List.map_append]; rfl⟩, hms⟩
          · simp (disch := (first | omega | assumption)) only [hlt', idx_nat, List.length_map, List.length_append, List.length_cons, List.length_nil, hg, hO, hn, Int.zero_sub, go_sem, Int.reduceEq, Int.reduceLT, Int.reduceLE, Int.reduceNeg, Nat.reduceAdd, Nat.reduceLT, Nat.reduceEqDiff, Nat.reduceMul, Nat.reduceLeDiff, reduceIte, Nat.reduceBEq, reduceCtorEq, evP_D, evD_guard, evD_cons, evD_zero, evD_nil]
            exact ⟨⟨k + 1, hlt, by rw [hL1]; simp only [clSt, hS1, List.cons_append, List.map_cons, List.map_append]; rfl⟩, hms⟩
      · have hk3 : ¬ kd = 3 := fun h => hk34 (.inl h)
        have hk4 : ¬ kd = 4 := fun h => hk34 (.inr h)
        have hcb : clsB E day (c, kd) = false := by simp [clsB, hk3, hk4]
        rw [hcb] at hL1 hS1
        simp only [Bool.false_eq_true, if_false, List.append_nil, Int.add_zero] at hL1 hS1
        cases hL : clsL E day (A.take k) with
        | nil =>
          rw [hL] at hL1
          unfold clSt
          simp (disch := (first | omega | assumption)) only [hlt', idx_nat, List.length_map, hg, hO, hn, hk3, hk4, go_sem, Int.reduceEq, Int.reduceLT, Int.reduceLE, Int.reduceNeg, Nat.reduceAdd, Nat.reduceLT, Nat.reduceEqDiff, Nat.reduceMul, Nat.reduceLeDiff, reduceIte, Nat.reduceBEq, reduceCtorEq, evP_D, evD_guard, evD_cons, evD_zero, evD_nil]
          exact ⟨⟨k + 1, hlt, by rw [hL1]; simp only [clSt, hS1]; rfl⟩, hms⟩
        | cons p r =>
          rw [hL] at hL1
          unfold clSt
          simp (disch := (first | omega | assumption)) only [hlt', idx_nat, List.length_map, hg, hO, hn, hk3, hk4, go_sem, Int.reduceEq, Int.reduceLT, Int.reduceLE, Int.reduceNeg, Nat.reduceAdd, Nat.reduceLT, Nat.reduceEqDiff, Nat.reduceMul, Nat.reduceLeDiff, reduceIte, Nat.reduceBEq, reduceCtorEq, evP_D, evD_guard, evD_cons, evD_zero, evD_nil]
          exact ⟨⟨k + 1, hlt, by rw [hL1]; simp only [clSt, hS1]; rfl⟩, hms⟩
  -- END OF WAYS
end Go.Proofs.YtdmkmbaaemhhhaaDoor
