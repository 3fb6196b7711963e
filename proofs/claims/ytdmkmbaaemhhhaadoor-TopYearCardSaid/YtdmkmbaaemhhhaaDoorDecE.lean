/-
  Numbers as decimals, run by the machine: the reference's Dec; the whole's small helpers.
-/
import Derived.Test.YtdmkmbaaemhhhaaDoorTsE
namespace Go.Acc
open Go
def digB (n : Nat) : ByteArray := (⟨#[48, 49, 50, 51, 52, 53, 54, 55, 56, 57]⟩ : ByteArray).extract n (n + 1)
def decF : Nat → Nat → ByteArray
  | 0, n => digB n
  | k + 1, n => if n < 10 then digB n else decF k (n / 10) ++ digB (n % 10)
theorem decF_lt (k : Nat) {n : Nat} (h : n < 10) : decF k n = digB n := by
  cases k with
  | zero => rfl
  | succ k => unfold decF; rw [if_pos h]
theorem digB_size {n : Nat} (h : n < 10) : (digB n).size = 1 := by
  unfold digB
  rw [ByteArray.size_extract]
  have : (⟨#[48, 49, 50, 51, 52, 53, 54, 55, 56, 57]⟩ : ByteArray).size = 10 := rfl
  omega
theorem decF_size : ∀ (k n : Nat), n < 10 ^ (k + 1) → (decF k n).size ≤ k + 1
  | 0, n, h => by
    have h10 : n < 10 := by simpa using h
    show (digB n).size ≤ 1
    rw [digB_size h10]
    exact Nat.le_refl _
  | k + 1, n, h => by
    unfold decF
    split
    · rename_i h10; rw [digB_size h10]; omega
    · have h1 : n / 10 < 10 ^ (k + 1) := by rw [Nat.div_lt_iff_lt_mul (by omega)]; rw [Nat.pow_succ] at h; exact h
      have := decF_size k (n / 10) h1
      rw [ByteArray.size_append, digB_size (Nat.mod_lt _ (by omega))]
      omega
end Go.Acc
namespace Go.Proofs.YtdmkmbaaemhhhaaDoor
open Go Go.Ev Go.RowKit Go.Acc
set_option maxHeartbeats 4000000
set_option linter.unusedSimpArgs false
set_option linter.unusedVariables false
attribute [local go_sem] mutV getB mvB bkB V.mv V.mvL V.bk V.bkL Blk.mv Blk.bk posN nmN backN noDup app_writes setHL_nil setHL_cons postM_ret postM_normal resM hasB_nil hasB_cons St.mut names_nil names_cons sortV cellOf mkX_M mkX_S mkX_ln lnL_at ms0_mt ms0_st V.lone V.loneL List.zip_cons_cons List.zip_nil_left Option.isNone_none bornV subE partR unB bytesW boundsV ownP sliceW copyV clearV lenM takeV tk1 mapsV mkMapV hintOk lookV updV mapKE keyOk V.key app_lend callW_fn lendV postL_ret postL_normal postT_ret postT_normal takeR St.lent mkX_L bin_eql_vz bin_eql_zv bin_eql_rz bin_eql_zr bin_eql_zz bin_neq_vz bin_neq_zv bin_neq_rz bin_neq_zr bin_neq_zz eqH nilEq nonE plainI gOf_bool gOf_skip g_some g_none Int.ofNat_zero Int.cast_ofNat_Int Bool.false_and Bool.and_false sliceV noBox elemsZ V.scrub V.scrubL Blk.scrub appendV isSlice maxLen_eq leT List.contains_nil List.contains_cons nvL_at fzL_at fillV V.plain V.plainL Blk.plain List.size_toArray mapO_nil mapO_cons Option.isNone_some beqT beqF oI_not mkX_e phi_nil phi_cons bin_eql_bool bin_neq_bool bin_eql_agg bin_neq_agg eqV eqFs eqK_int eqK_bool' eqK_str mkX_T mkX_Φ mkX_n mkX_f mkX_d mkX_r nv0_at fz0_at evQ_dr evP_W evW_nil evW_cons evW_guard okW_eq tame_none tame_new tame_write wb_none wb_new wb_write okU_some offW_none offW_some touchOf V.noRef V.noRefL Option.isSome_some Option.isSome_none mild_none mild_new Option.getD_some Option.getD_none evQ_seq evQ_region evQ_block evQ_cond evQ_ret evQ_skip evQ_exit evO_cons evO_nil evO_guard freezeL_nil oS_some oS_none oS_ite oS_ite' oB_bool oI_true oI_false oE_normal oE_exit oE_ret bQ_normal bQ_ret bQ_exit lQ_normal lQ_ret lQ_exit List.zipIdx_cons List.zipIdx_nil List.map_cons List.map_nil evalOp opd_const opd_tmp opd_func ofC_int ofC_bool ofC_str ofC_nil app_none app_new app_write app_change putE_some putE_none setA_cons setA_nil setH_cons setH_nil mapA_cons mapA_nil look_cons look_nil e_mk h_mk drop_nil drop_mk keep_mk dstOk_some dstOk_none guardT_eq true_and and_true Bool.not_false Bool.not_true selB_true selB_false mem_nil mem_cons kpL_nil kpL_cons drL_nil drL_cons closed_mk V.refsIn V.refsInL Blk.refsIn List.all_cons List.all_nil lenV bin_add bin_sub bin_mul bin_quo bin_rem bin_eql bin_neq bin_lss bin_leq bin_gtr bin_geq un_neg un_not post_ret post_normal St.init Bool.false_eq_true List.length_map Bool.or_false Bool.or_true Bool.false_or Bool.true_or beq_self_eq_true Option.map_some Option.map_none Option.bind_some List.getElem?_cons_zero List.getElem?_cons_succ scalar stor isAggV V.cells List.cons_append List.nil_append if_true if_false wrap_of callV V.dataL V.data Bool.and_true Bool.true_and fresh names V.ren V.renL retV resV packL packV packC getBlks wrapR subV putV decide_true decide_false TK.agg List.length_cons List.length_nil List.take_succ_cons List.take_zero List.drop_succ_cons List.drop_zero List.take_nil List.drop_nil Nat.zero_add Nat.add_zero List.append_nil List.getElem?_nil elemsV ro ro0 ro1 roC ty1 ty2 ty3 ty4 ty5 ty6 ty7 ty8 ty9 ty10 ty11 ty12 ty13 ty14 ty15 ty16 ty17 ty18 ty19 ty21 ty22 ty23 ty24 ty26 ty27 ty28 ty29 ty30 ty31 ty32 ty33 ty34 ty35 ty36 ty37 ty38 ty39 ty40 ty41 ty42 ty44 ty45 ty47 ty49 ty51 ty53 ty54 ty55 ty56 ty57 ty58 ty59 ty60 ty61 ty62 ty63 ty64 ty65 ty66 ty67 ty68 ty69 ty70 ty71 ty72 ty73 ty74 ty75 ty76 ty77 ty78 ty79 ty80 ty81 ty82 ty83 ty84 ty85 ty86 ty87 ty88 ty89 ty90 ty92 ty93 ty94 ty95 ty96 ty97 ty98 ty99 ty100 ty101 ty102 ty103 ty104 ty105 ty107 ty108 ty109 ty110 ty111 ty112 ty113 ty114 ty115 ty116 ty117 ty118 ty119 ty123 ty124 ty125 ty126 ty127 ty128 ty129 ty130 ty131 ty132 ty133 ty135 ty136 ty137 ty138 ty139 ty141 ty142 ty143 ty144 ty146 ty147 ty148 ty149 ty153 ty154 ty155 ty156 ty157 ty158 ty159 ty160 ty161 eqs29 eqs61 eqs79 eqs94
theorem bin_add_str {x y : ByteArray} (h : ((x.size + y.size : Nat) : Int) ≤ 9223372036854775807) : binV .add (.str x) (.str y) = some (.str (x ++ y)) := by
  unfold binV
  exact if_pos (by omega)
theorem dec_small {J : World → Prop} (hJ : Stable J) (n : Nat) (h : n < 10) : SoundAt Tryd.prog J 34 [.int .i64 n] (.str (digB n)) [] := by
  have h0 : ¬ (n : Int) < 0 := by omega
  have h1 : (n : Int) < 10 := by omega
  have hs : ByteArray.size (⟨#[48, 49, 50, 51, 52, 53, 54, 55, 56, 57]⟩ : ByteArray) = 10 := rfl
  have e1 : ((n : Int)).toNat = n := by omega
  have e2 : ((n : Int) + 1).toNat = n + 1 := by omega
  have c1 : (n : Int) + 1 ≤ 10 := by omega
  have c2 : (n : Int) ≤ ((n + 1 : Nat) : Int) := by omega
  have c3 : 0 ≤ (n : Int) + 1 := by omega
  have c4 : 0 ≤ (n : Int) := by omega
  have hd : digB n = (⟨#[48, 49, 50, 51, 52, 53, 54, 55, 56, 57]⟩ : ByteArray).extract n (n + 1) := rfl
  rw [hd]
  refine evFn (l := []) (nv := nv0) (fz := fz0) (dr := dr34) (dd := dd34) (lam := []) (ms := ms0) trivial hJ trivial ms0_ok Tryd.func34 rfl rfl (Nat.le_of_ble_eq_true rfl) (Nat.le_of_ble_eq_true rfl) drOk34 ?_
  dsimp only [Tryd.f34, dr34, dd34, Option.getD_some]
  refine ev_start ?_
  simp (disch := omega) only [h0, h1, hs, c1, c2, c3, c4, e1, e2, and_self, go_sem, Int.reduceEq, Int.reduceLT, Int.reduceLE, Int.reduceNeg, Nat.reduceAdd, Nat.reduceLT, Nat.reduceEqDiff, Nat.reduceMul, Nat.reduceLeDiff, reduceIte, Nat.reduceBEq, reduceCtorEq, evP_D, evD_guard, evD_cons, evD_zero, evD_nil]
theorem dec_nat {J : World → Prop} (hJ : Stable J) : ∀ (k n : Nat), n < 10 ^ (k + 1) → k ≤ 18 → (n : Int) ≤ 9223372036854775807 → SoundAt Tryd.prog J 34 [.int .i64 n] (.str (decF k n)) []
  | 0, n, h, _, _ => dec_small hJ n (by simpa using h)
  | k + 1, n, h, hk, hn => by
    by_cases h10 : n < 10
    · rw [decF_lt _ h10]; exact dec_small hJ n h10
    obtain ⟨DF, hDF, hDFs⟩ := fam_ex (f := 34) (fun m : { m : Nat // m < 10 ^ (k + 1) ∧ (m : Int) ≤ 9223372036854775807 } => [V.int .i64 (m.1 : Int)]) (fun m => (V.str (decF k m.1), [])) (fun i j hij => by
      simp only [List.cons.injEq, V.int.injEq, true_and, and_true] at hij
      have : i.1 = j.1 := by omega
      rw [this]) (fun m => dec_nat hJ k m.1 m.2.1 (by omega) m.2.2)
    have hq : (n : Int).tdiv 10 = ((n / 10 : Nat) : Int) := rfl
    have hr : (n : Int).tmod 10 = ((n % 10 : Nat) : Int) := rfl
    have d1 : n / 10 < 10 ^ (k + 1) := by rw [Nat.div_lt_iff_lt_mul (by omega)]; rw [Nat.pow_succ] at h; exact h
    have hp : 10 ≤ 10 ^ (k + 1) := by rw [Nat.pow_succ]; have : 0 < 10 ^ k := Nat.pow_pos (by omega); omega
    have m1 := Nat.mod_lt n (show 0 < 10 by omega)
    have f1 := hDF ⟨n / 10, d1, by omega⟩
    have f2 := hDF ⟨n % 10, by omega, by omega⟩
    simp only [decF_lt k m1] at f1 f2
    have s1 := decF_size k (n / 10) d1
    have s2 := digB_size m1
    have e : decF (k + 1) n = decF k (n / 10) ++ digB (n % 10) := by rw [decF]; exact if_neg h10
    have h0 : ¬ (n : Int) < 0 := by omega
    have h1 : ¬ (n : Int) < 10 := by omega
    have w1 : IntKind.i64.wrap ((n / 10 : Nat) : Int) = ((n / 10 : Nat) : Int) := by rw [IntKind.wrap_i64]; omega
    rw [e]
    generalize n / 10 = Q at *
    generalize n % 10 = R at *
    refine evFn (l := [(34, DF)]) (nv := nv0) (fz := fz0) (dr := dr34) (dd := dd34) (lam := []) (ms := ms0) ⟨hDFs, trivial⟩ hJ trivial ms0_ok Tryd.func34 rfl rfl (Nat.le_of_ble_eq_true rfl) (Nat.le_of_ble_eq_true rfl) drOk34 ?_
    dsimp only [Tryd.f34, dr34, dd34, Option.getD_some]
    refine ev_start ?_
    simp (disch := omega) only [h0, h1, hq, hr, w1, f1, f2, bin_add_str, go_sem, Int.reduceEq, Int.reduceLT, Int.reduceLE, Int.reduceNeg, Nat.reduceAdd, Nat.reduceLT, Nat.reduceEqDiff, Nat.reduceMul, Nat.reduceLeDiff, reduceIte, Nat.reduceBEq, reduceCtorEq, evP_D, evD_guard, evD_cons, evD_zero, evD_nil]
end Go.Proofs.YtdmkmbaaemhhhaaDoor
