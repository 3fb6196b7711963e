/-
  What is written off the same each time, or by digits, run by the machine.
-/
import Derived.Test.YtdmkmbaaemhhhaaDoorOffP
import Derived.Test.YtdmkmbaaemhhhaaDoorFill
namespace Go.Proofs.YtdmkmbaaemhhhaaDoor
open Go Go.Ev Go.RowKit
set_option maxHeartbeats 4000000
set_option linter.unusedSimpArgs false
set_option linter.unusedVariables false
attribute [local go_sem] mutV getB mvB bkB V.mv V.mvL V.bk V.bkL Blk.mv Blk.bk posN nmN backN noDup app_writes setHL_nil setHL_cons postM_ret postM_normal resM hasB_nil hasB_cons St.mut names_nil names_cons sortV cellOf mkX_M mkX_S mkX_ln lnL_at ms0_mt ms0_st V.lone V.loneL List.zip_cons_cons List.zip_nil_left Option.isNone_none bornV subE partR unB bytesW boundsV ownP sliceW copyV clearV lenM takeV tk1 mapsV mkMapV hintOk lookV updV mapKE keyOk V.key app_lend callW_fn lendV postL_ret postL_normal postT_ret postT_normal takeR St.lent mkX_L bin_eql_vz bin_eql_zv bin_eql_rz bin_eql_zr bin_eql_zz bin_neq_vz bin_neq_zv bin_neq_rz bin_neq_zr bin_neq_zz eqH nilEq nonE plainI gOf_bool gOf_skip g_some g_none Int.ofNat_zero Int.cast_ofNat_Int Bool.false_and Bool.and_false sliceV noBox elemsZ V.scrub V.scrubL Blk.scrub appendV isSlice maxLen_eq leT List.contains_nil List.contains_cons nvL_at fzL_at fillV V.plain V.plainL Blk.plain List.size_toArray mapO_nil mapO_cons Option.isNone_some beqT beqF oI_not mkX_e phi_nil phi_cons bin_eql_bool bin_neq_bool bin_eql_agg bin_neq_agg eqV eqFs eqK_int eqK_bool' eqK_str mkX_T mkX_Φ mkX_n mkX_f mkX_d mkX_r nv0_at fz0_at evQ_dr evP_W evW_nil evW_cons evW_guard okW_eq tame_none tame_new tame_write wb_none wb_new wb_write okU_some offW_none offW_some touchOf V.noRef V.noRefL Option.isSome_some Option.isSome_none mild_none mild_new Option.getD_some Option.getD_none evQ_seq evQ_region evQ_block evQ_cond evQ_ret evQ_skip evQ_exit evO_cons evO_nil evO_guard freezeL_nil oS_some oS_none oS_ite oS_ite' oB_bool oI_true oI_false oE_normal oE_exit oE_ret bQ_normal bQ_ret bQ_exit lQ_normal lQ_ret lQ_exit List.zipIdx_cons List.zipIdx_nil List.map_cons List.map_nil evalOp opd_const opd_tmp opd_func ofC_int ofC_bool ofC_str ofC_nil app_none app_new app_write app_change putE_some putE_none setA_cons setA_nil setH_cons setH_nil mapA_cons mapA_nil look_cons look_nil e_mk h_mk drop_nil drop_mk keep_mk dstOk_some dstOk_none guardT_eq true_and and_true Bool.not_false Bool.not_true selB_true selB_false mem_nil mem_cons kpL_nil kpL_cons drL_nil drL_cons closed_mk V.refsIn V.refsInL Blk.refsIn List.all_cons List.all_nil lenV bin_add bin_sub bin_mul bin_quo bin_rem bin_eql bin_neq bin_lss bin_leq bin_gtr bin_geq un_neg un_not post_ret post_normal St.init Bool.false_eq_true List.length_map Bool.or_false Bool.or_true Bool.false_or Bool.true_or beq_self_eq_true Option.map_some Option.map_none Option.bind_some List.getElem?_cons_zero List.getElem?_cons_succ scalar stor isAggV V.cells List.cons_append List.nil_append if_true if_false wrap_of callV V.dataL V.data Bool.and_true Bool.true_and fresh names V.ren V.renL retV resV packL packV packC getBlks wrapR subV putV decide_true decide_false TK.agg List.length_cons List.length_nil List.take_succ_cons List.take_zero List.drop_succ_cons List.drop_zero List.take_nil List.drop_nil Nat.zero_add Nat.add_zero List.append_nil List.getElem?_nil elemsV ro ro0 ro1 roC ty1 ty2 ty3 ty4 ty5 ty6 ty7 ty8 ty9 ty10 ty11 ty12 ty13 ty14 ty15 ty16 ty17 ty18 ty19 ty21 ty22 ty23 ty24 ty26 ty27 ty28 ty29 ty30 ty31 ty32 ty33 ty34 ty35 ty36 ty37 ty38 ty39 ty40 ty41 ty42 ty44 ty45 ty47 ty49 ty51 ty53 ty54 ty55 ty56 ty57 ty58 ty59 ty60 ty61 ty62 ty63 ty64 ty65 ty66 ty67 ty68 ty69 ty70 ty71 ty72 ty73 ty74 ty75 ty76 ty77 ty78 ty79 ty80 ty81 ty82 ty83 ty84 ty85 ty86 ty87 ty88 ty89 ty90 ty92 ty93 ty94 ty95 ty96 ty97 ty98 ty99 ty100 ty101 ty102 ty103 ty104 ty105 ty107 ty108 ty109 ty110 ty111 ty112 ty113 ty114 ty115 ty116 ty117 ty118 ty119 ty123 ty124 ty125 ty126 ty127 ty128 ty129 ty130 ty131 ty132 ty133 ty135 ty136 ty137 ty138 ty139 ty141 ty142 ty143 ty144 ty146 ty147 ty148 ty149 ty153 ty154 ty155 ty156 ty157 ty158 ty159 ty160 ty161 eqs29 eqs61 eqs79 eqs94
theorem parts_sound {J : World → Prop} (hJ : Stable J) (g : FuncId) (cs : List V) (G : List V → Option (V × List Blk)) (hG : Snd Tryd.prog J g G) (hd : V.dataL cs = true) (F : Int → Int) (n : Nat) (hn : n ≤ 1000)
    (hp : ∀ k : Nat, k ≤ n → G (.int .i64 k :: cs) = some (.int .i64 (F k), [])) (hb : ∀ k : Nat, k ≤ n → -4000000000000000000 ≤ F k ∧ F k ≤ 4000000000000000000) :
    SoundAt Tryd.prog J 85 [.int .i64 n, .fn g cs] (.vec 0) [.vec 3 1 ((steps F n).map (V.int .i64))] := by
  have f1 : (0 : Int) ≤ n := by omega
  have f2 : (n : Int) * 8 ≤ 140737488355328 := by omega
  have f3 : (n : Int) ≤ 9223372036854775807 := by omega
  have hst : steps F n = (List.range n).map fun k : Nat => F ((k : Int) + 1) - F (k : Int) := rfl
  refine evFn (l := [(g, G)]) (nv := nv0) (fz := fz0) (dr := dr85) (dd := dd85) (lam := []) (ms := ms0) ⟨hG, trivial⟩ hJ trivial ms0_ok Tryd.func85 rfl rfl (Nat.le_of_ble_eq_true rfl) (Nat.le_of_ble_eq_true rfl) drOk85 ?_
  dsimp only [Tryd.f85, dr85, dd85, Option.getD_some]
  refine ev_start ?_
  simp (disch := omega) only [makeV, f1, f2, f3, Int.toNat_natCast, List.length_replicate, go_sem, Int.reduceEq, Int.reduceLT, Int.reduceLE, Int.reduceNeg, Nat.reduceAdd, Nat.reduceLT, Nat.reduceEqDiff, Nat.reduceMul, Nat.reduceLeDiff, reduceIte, Nat.reduceBEq, reduceCtorEq, evP_D, evD_guard, evD_cons, evD_zero, evD_nil]
  refine evQ_loop [1, 5, 10, 11] [64] (fun σ => ∃ (k : Nat), k ≤ n ∧ σ = ⟨[(1, .fn g cs), (5, .vec 64), (10, .int .i64 n), (11, .int .i64 k)],
      [(64, .vec 3 1 ((fillL 0 (fun k : Nat => F ((k : Int) + 1) - F (k : Int)) n k).map (V.int .i64)))]⟩)
      (fun σ => n - (match Ev.look 11 σ.env with | some (.int _ n) => n.toNat | _ => 0)) ?_ ?_
  · simp only [refsInL_data hd, go_sem, Int.reduceEq, Int.reduceLT, Int.reduceLE, Int.reduceNeg, Nat.reduceAdd, Nat.reduceLT, Nat.reduceEqDiff, Nat.reduceMul, Nat.reduceLeDiff, reduceIte, Nat.reduceBEq, reduceCtorEq, evP_D, evD_guard, evD_cons, evD_zero, evD_nil]
    exact ⟨0, Nat.zero_le _, by rw [fillL_map, fillL_zero]; rfl⟩
  · rintro σ ⟨k, hk, rfl⟩
    by_cases hlt : k < n
    · have hlt' : (k : Int) < n := by omega
      have h1 := hp (k + 1) hlt
      have h0 := hp k hk
      have b1 := hb (k + 1) hlt
      have b0 := hb k hk
      have e1 : ((k + 1 : Nat) : Int) = (k : Int) + 1 := by omega
      rw [e1] at h1 b1
      have hset := fillL_set (0 : Int) (fun k : Nat => F ((k : Int) + 1) - F (k : Int)) (n := n) (k := k)
      have hat := fillL_at (0 : Int) (fun k : Nat => F ((k : Int) + 1) - F (k : Int)) (n := n) (k := k) hlt (Nat.lt_irrefl k)
      simp (disch := (first | omega | assumption)) only [hlt', h0, h1, idx_nat, List.length_map, List.getElem?_map, hat, fillL_len, hd, refsInL_data hd, scrubL_data hd, V.dataL, V.data, go_sem, Int.reduceEq, Int.reduceLT, Int.reduceLE, Int.reduceNeg, Nat.reduceAdd, Nat.reduceLT, Nat.reduceEqDiff, Nat.reduceMul, Nat.reduceLeDiff, reduceIte, Nat.reduceBEq, reduceCtorEq, evP_D, evD_guard, evD_cons, evD_zero, evD_nil]
      exact ⟨⟨k + 1, hlt, by rw [← hset, List.map_set]; rfl⟩, by
        have e3 : ((k : Int) + 1).toNat = k + 1 := by omega
        rw [e3, Int.toNat_natCast]; omega⟩
    · have hk' : k = n := by omega
      subst hk'
      have hlt' : ¬ ((k : Int) < k) := by omega
      simp (disch := (first | omega | assumption)) only [hlt', hst, fillL_end, go_sem, Int.reduceEq, Int.reduceLT, Int.reduceLE, Int.reduceNeg, Nat.reduceAdd, Nat.reduceLT, Nat.reduceEqDiff, Nat.reduceMul, Nat.reduceLeDiff, reduceIte, Nat.reduceBEq, reduceCtorEq, evP_D, evD_guard, evD_cons, evD_zero, evD_nil]
def ls1C (cost rest n : Int) : List V := [.rd (.int .i64 cost) 0, .rd (.int .i64 rest) 0, .rd (.int .i64 n) 0]
def ls1F : List V → Option (V × List Blk)
  | [.int .i64 k, .rd (.int .i64 cost) 0, .rd (.int .i64 rest) 0, .rd (.int .i64 n) 0] => if (0 ≤ rest ∧ rest ≤ cost ∧ cost ≤ 1000000000000) ∧ 1 ≤ n ∧ n ≤ 40 ∧ 0 ≤ k ∧ k ≤ n then some (.int .i64 (lnS (cost - rest) n k), []) else none
  | _ => none
theorem ls1F_eq {cost rest n k : Int} (h : (0 ≤ rest ∧ rest ≤ cost ∧ cost ≤ 1000000000000) ∧ 1 ≤ n ∧ n ≤ 40 ∧ 0 ≤ k ∧ k ≤ n) : ls1F (.int .i64 k :: ls1C cost rest n) = some (.int .i64 (lnS (cost - rest) n k), []) := if_pos h
theorem lnm_bd {D k : Int} (h0 : 0 ≤ D) (h1 : D ≤ 1000000000000) (h2 : 0 ≤ k) (h3 : k ≤ 1000) : 0 ≤ D * k ∧ D * k ≤ 1000000000000000 := by
  have k1 : D * k ≤ 1000000000000 * k := Int.mul_le_mul_of_nonneg_right h1 h2
  have k2 : 0 ≤ D * k := Int.mul_nonneg h0 h2
  omega
theorem ls1_snd {J : World → Prop} (hJ : Stable J) : Snd Tryd.prog J 88 ls1F := by
  intro args r bs h
  unfold ls1F at h
  split at h
  · rename_i k cost rest n
    split at h
    · rename_i hc
      obtain ⟨rfl, rfl⟩ := some_pair h
      have hm := lnm_bd (D := cost - rest) (k := k) (by omega) (by omega) (by omega) (by omega)
      have hr : rndF [.int .i64 ((cost - rest) * k), .int .i64 n, .int .i64 2] = some (.int .i64 (lnS (cost - rest) n k), []) := rndF_eq (by omega)
      refine evFn (l := [(87, rndF)]) (nv := nv0) (fz := fz0) (dr := dr88) (dd := dd88) (lam := []) (ms := ms0) ⟨rounded_snd, trivial⟩ hJ trivial ms0_ok Tryd.func88 rfl rfl (Nat.le_of_ble_eq_true rfl) (Nat.le_of_ble_eq_true rfl) drOk88 ?_
      dsimp only [Tryd.f88, dr88, dd88, Option.getD_some]
      refine ev_start ?_
      simp (disch := omega) only [hr, go_sem, Int.reduceEq, Int.reduceLT, Int.reduceLE, Int.reduceNeg, Nat.reduceAdd, Nat.reduceLT, Nat.reduceEqDiff, Nat.reduceMul, Nat.reduceLeDiff, reduceIte, Nat.reduceBEq, reduceCtorEq, evP_D, evD_guard, evD_cons, evD_zero, evD_nil]
    · cases h
  · cases h
theorem straight_sound {J : World → Prop} (hJ : Stable J) (cost rest : Int) (n : Nat) (h0 : 0 ≤ rest) (h1 : rest ≤ cost) (h2 : cost ≤ 1000000000000) (hn : 1 ≤ n) (hn2 : n ≤ 40) :
    SoundAt Tryd.prog J 53 [.int .i64 cost, .int .i64 rest, .int .i64 n] (.tup [.vec 0, .int .i64 0]) [.vec 3 1 ((steps (lnS (cost - rest) n) n).map (V.int .i64))] := by
  have hP := parts_sound hJ 88 (ls1C cost rest n) ls1F (ls1_snd hJ) rfl (lnS (cost - rest) n) n (by omega) (fun k hk => ls1F_eq (by omega)) (fun k hk => by
    have := lnS_bd (D := cost - rest) (n := n) (k := k) (by omega) (by omega) (by omega) (by omega)
    omega)
  have hL := offE_t (c := cost) (r := rest) (n := (n : Int)) (by omega)
  unfold ls1C at hP
  refine evFn (l := [(84, offF), (85, at1 _ (_, [.vec 3 1 ((steps (lnS (cost - rest) n) n).map (V.int .i64))]))]) (nv := nv0) (fz := fz0) (dr := dr53) (dd := dd53) (lam := []) (ms := ms0) ⟨look_snd hJ, at1_snd hP, trivial⟩ hJ trivial ms0_ok Tryd.func53 rfl rfl (Nat.le_of_ble_eq_true rfl) (Nat.le_of_ble_eq_true rfl) drOk53 ?_
  dsimp only [Tryd.f53, dr53, dd53, Option.getD_some]
  refine ev_start ?_
  simp (disch := omega) only [offF_eq, hL, at1_eq, List.mapM_cons, List.mapM_nil, Option.bind_eq_bind, Option.pure_def, Option.bind_some, go_sem, Int.reduceEq, Int.reduceLT, Int.reduceLE, Int.reduceNeg, Nat.reduceAdd, Nat.reduceLT, Nat.reduceEqDiff, Nat.reduceMul, Nat.reduceLeDiff, reduceIte, Nat.reduceBEq, reduceCtorEq, evP_D, evD_guard, evD_cons, evD_zero, evD_nil]
def ld1C (cost rest n all : Int) : List V := [.rd (.int .i64 cost) 0, .rd (.int .i64 rest) 0, .rd (.int .i64 n) 0, .rd (.int .i64 all) 0]
def ld1F : List V → Option (V × List Blk)
  | [.int .i64 k, .rd (.int .i64 cost) 0, .rd (.int .i64 rest) 0, .rd (.int .i64 n) 0, .rd (.int .i64 all) 0] => if (0 ≤ rest ∧ rest ≤ cost ∧ cost ≤ 1000000000000) ∧ 1 ≤ n ∧ n ≤ 40 ∧ 0 ≤ k ∧ k ≤ n ∧ all = lnT n then some (.int .i64 (lnD (cost - rest) n k), []) else none
  | _ => none
theorem ld1F_eq {cost rest n k : Int} (h : (0 ≤ rest ∧ rest ≤ cost ∧ cost ≤ 1000000000000) ∧ 1 ≤ n ∧ n ≤ 40 ∧ 0 ≤ k ∧ k ≤ n) : ld1F (.int .i64 k :: ld1C cost rest n (lnT n)) = some (.int .i64 (lnD (cost - rest) n k), []) := if_pos ⟨h.1, h.2.1, h.2.2.1, h.2.2.2.1, h.2.2.2.2, rfl⟩
theorem ld1_snd {J : World → Prop} (hJ : Stable J) : Snd Tryd.prog J 86 ld1F := by
  intro args r bs h
  unfold ld1F at h
  split at h
  · rename_i k cost rest n all
    split at h
    · rename_i hc
      obtain ⟨rfl, rfl⟩ := some_pair h
      obtain ⟨hc0, hc1, hc2, hc3, hc4, rfl⟩ := hc
      have hT := lnT_bd hc1 hc2
      obtain ⟨k, rfl⟩ : ∃ m : Nat, k = m := ⟨k.toNat, by omega⟩
      obtain ⟨n, rfl⟩ : ∃ m : Nat, n = m := ⟨n.toNat, by omega⟩
      have hg0 := lnG_bd (n := n) k (by omega)
      have hg1 := lnG_le (n := n) (n - k) k (by omega)
      have hm := lnm_bd (D := cost - rest) (k := lnG n k) (by omega) (by omega) hg0 (by omega)
      have hr : rndF [.int .i64 ((cost - rest) * lnG n k), .int .i64 (lnT n), .int .i64 2] = some (.int .i64 (lnD (cost - rest) n k), []) := rndF_eq (by omega)
      have p1 : 0 ≤ (k : Int) * n ∧ (k : Int) * n ≤ 1600 := by
        have a1 := Int.mul_le_mul (show (k : Int) ≤ 40 by omega) (show (n : Int) ≤ 40 by omega) (by omega) (by omega)
        exact ⟨Int.mul_nonneg (by omega) (by omega), by omega⟩
      have p2 : 0 ≤ (k : Int) * ((k : Int) - 1) ∧ (k : Int) * ((k : Int) - 1) ≤ 1600 := by
        by_cases hk0 : k = 0
        · subst hk0; simp
        · have a1 := Int.mul_le_mul (show (k : Int) ≤ 40 by omega) (show (k : Int) - 1 ≤ 40 by omega) (by omega) (by omega)
          exact ⟨Int.mul_nonneg (by omega) (by omega), by omega⟩
      have t2 : ((k : Int) * ((k : Int) - 1)).tdiv 2 = (k : Int) * ((k : Int) - 1) / 2 := Int.tdiv_eq_ediv_of_nonneg p2.1
      have hgd : (k : Int) * n - (k : Int) * ((k : Int) - 1) / 2 = lnG n k := rfl
      refine evFn (l := [(87, rndF)]) (nv := nv0) (fz := fz0) (dr := dr86) (dd := dd86) (lam := []) (ms := ms0) ⟨rounded_snd, trivial⟩ hJ trivial ms0_ok Tryd.func86 rfl rfl (Nat.le_of_ble_eq_true rfl) (Nat.le_of_ble_eq_true rfl) drOk86 ?_
      dsimp only [Tryd.f86, dr86, dd86, Option.getD_some]
      refine ev_start ?_
      simp (disch := omega) only [t2, hgd, hr, go_sem, Int.reduceEq, Int.reduceLT, Int.reduceLE, Int.reduceNeg, Nat.reduceAdd, Nat.reduceLT, Nat.reduceEqDiff, Nat.reduceMul, Nat.reduceLeDiff, reduceIte, Nat.reduceBEq, reduceCtorEq, evP_D, evD_guard, evD_cons, evD_zero, evD_nil]
    · cases h
  · cases h
theorem digits_sound {J : World → Prop} (hJ : Stable J) (cost rest : Int) (n : Nat) (h0 : 0 ≤ rest) (h1 : rest ≤ cost) (h2 : cost ≤ 1000000000000) (hn : 1 ≤ n) (hn2 : n ≤ 40) :
    SoundAt Tryd.prog J 52 [.int .i64 cost, .int .i64 rest, .int .i64 n] (.tup [.vec 0, .int .i64 0]) [.vec 3 1 ((steps (lnD (cost - rest) n) n).map (V.int .i64))] := by
  have hP := parts_sound hJ 86 (ld1C cost rest n (lnT n)) ld1F (ld1_snd hJ) rfl (lnD (cost - rest) n) n (by omega) (fun k hk => ld1F_eq (by omega)) (fun k hk => by
    have := lnD_bd (D := cost - rest) (n := n) (k := k) (by omega) (by omega) (by omega) (by omega)
    omega)
  have hL := offE_t (c := cost) (r := rest) (n := (n : Int)) (by omega)
  have p1 : 0 ≤ (n : Int) * ((n : Int) + 1) ∧ (n : Int) * ((n : Int) + 1) ≤ 2000 := by
    have a1 := Int.mul_le_mul (show (n : Int) ≤ 40 by omega) (show (n : Int) + 1 ≤ 41 by omega) (by omega) (by omega)
    exact ⟨Int.mul_nonneg (by omega) (by omega), by omega⟩
  have t2 : ((n : Int) * ((n : Int) + 1)).tdiv 2 = lnT n := Int.tdiv_eq_ediv_of_nonneg p1.1
  have hT := lnT_bd (n := (n : Int)) (by omega) (by omega)
  unfold ld1C at hP
  refine evFn (l := [(84, offF), (85, at1 _ (_, [.vec 3 1 ((steps (lnD (cost - rest) n) n).map (V.int .i64))]))]) (nv := nv0) (fz := fz0) (dr := dr52) (dd := dd52) (lam := []) (ms := ms0) ⟨look_snd hJ, at1_snd hP, trivial⟩ hJ trivial ms0_ok Tryd.func52 rfl rfl (Nat.le_of_ble_eq_true rfl) (Nat.le_of_ble_eq_true rfl) drOk52 ?_
  dsimp only [Tryd.f52, dr52, dd52, Option.getD_some]
  refine ev_start ?_
  simp (disch := omega) only [offF_eq, hL, at1_eq, t2, List.mapM_cons, List.mapM_nil, Option.bind_eq_bind, Option.pure_def, Option.bind_some, go_sem, Int.reduceEq, Int.reduceLT, Int.reduceLE, Int.reduceNeg, Nat.reduceAdd, Nat.reduceLT, Nat.reduceEqDiff, Nat.reduceMul, Nat.reduceLeDiff, reduceIte, Nat.reduceBEq, reduceCtorEq, evP_D, evD_guard, evD_cons, evD_zero, evD_nil]
end Go.Proofs.YtdmkmbaaemhhhaaDoor
