/-
  The machine's contracts of functions over rows of ints: roundings, equality, search by a function, parts of a sum.
-/
import Derived.Test.YtdmkmbaaemhhhaaDoorEvA
import Derived.Test.YtdmkmbaaemhhhaaDoorRounded
namespace Go.Proofs.YtdmkmbaaemhhhaaDoor
open Go Go.Ev Go.RowKit
set_option maxHeartbeats 4000000
set_option linter.unusedSimpArgs false
set_option linter.unusedVariables false
attribute [local go_sem] mutV getB mvB bkB V.mv V.mvL V.bk V.bkL Blk.mv Blk.bk posN nmN backN noDup app_writes setHL_nil setHL_cons postM_ret postM_normal resM hasB_nil hasB_cons St.mut names_nil names_cons sortV cellOf mkX_M mkX_S mkX_ln lnL_at ms0_mt ms0_st V.lone V.loneL List.zip_cons_cons List.zip_nil_left Option.isNone_none bornV subE partR unB bytesW boundsV ownP sliceW copyV clearV lenM takeV tk1 mapsV mkMapV hintOk lookV updV mapKE keyOk V.key app_lend callW_fn lendV postL_ret postL_normal postT_ret postT_normal takeR St.lent mkX_L bin_eql_vz bin_eql_zv bin_eql_rz bin_eql_zr bin_eql_zz bin_neq_vz bin_neq_zv bin_neq_rz bin_neq_zr bin_neq_zz eqH nilEq nonE plainI gOf_bool gOf_skip g_some g_none Int.ofNat_zero Int.cast_ofNat_Int Bool.false_and Bool.and_false sliceV noBox elemsZ V.scrub V.scrubL Blk.scrub appendV isSlice maxLen_eq leT List.contains_nil List.contains_cons nvL_at fzL_at fillV V.plain V.plainL Blk.plain List.size_toArray mapO_nil mapO_cons Option.isNone_some beqT beqF oI_not mkX_e phi_nil phi_cons bin_eql_bool bin_neq_bool bin_eql_agg bin_neq_agg eqV eqFs eqK_int eqK_bool' eqK_str mkX_T mkX_Φ mkX_n mkX_f mkX_d mkX_r nv0_at fz0_at evQ_dr evP_W evW_nil evW_cons evW_guard okW_eq tame_none tame_new tame_write wb_none wb_new wb_write okU_some offW_none offW_some touchOf V.noRef V.noRefL Option.isSome_some Option.isSome_none mild_none mild_new Option.getD_some Option.getD_none evQ_seq evQ_region evQ_block evQ_cond evQ_ret evQ_skip evQ_exit evO_cons evO_nil evO_guard freezeL_nil oS_some oS_none oS_ite oS_ite' oB_bool oI_true oI_false oE_normal oE_exit oE_ret bQ_normal bQ_ret bQ_exit lQ_normal lQ_ret lQ_exit List.zipIdx_cons List.zipIdx_nil List.map_cons List.map_nil evalOp opd_const opd_tmp opd_func ofC_int ofC_bool ofC_str ofC_nil app_none app_new app_write app_change putE_some putE_none setA_cons setA_nil setH_cons setH_nil mapA_cons mapA_nil look_cons look_nil e_mk h_mk drop_nil drop_mk keep_mk dstOk_some dstOk_none guardT_eq true_and and_true Bool.not_false Bool.not_true selB_true selB_false mem_nil mem_cons kpL_nil kpL_cons drL_nil drL_cons closed_mk V.refsIn V.refsInL Blk.refsIn List.all_cons List.all_nil lenV bin_add bin_sub bin_mul bin_quo bin_rem bin_eql bin_neq bin_lss bin_leq bin_gtr bin_geq un_neg un_not post_ret post_normal St.init Bool.false_eq_true List.length_map Bool.or_false Bool.or_true Bool.false_or Bool.true_or beq_self_eq_true Option.map_some Option.map_none Option.bind_some List.getElem?_cons_zero List.getElem?_cons_succ scalar stor isAggV V.cells List.cons_append List.nil_append if_true if_false wrap_of callV V.dataL V.data Bool.and_true Bool.true_and fresh names V.ren V.renL retV resV packL packV packC getBlks wrapR subV putV decide_true decide_false TK.agg List.length_cons List.length_nil List.take_succ_cons List.take_zero List.drop_succ_cons List.drop_zero List.take_nil List.drop_nil Nat.zero_add Nat.add_zero List.append_nil List.getElem?_nil elemsV ro ro0 ro1 roC ty1 ty2 ty3 ty4 ty5 ty6 ty7 ty8 ty9 ty10 ty11 ty12 ty13 ty14 ty15 ty16 ty17 ty18 ty19 ty21 ty22 ty23 ty24 ty26 ty27 ty28 ty29 ty30 ty31 ty32 ty33 ty34 ty35 ty36 ty37 ty38 ty39 ty40 ty41 ty42 ty44 ty45 ty47 ty49 ty51 ty53 ty54 ty55 ty56 ty57 ty58 ty59 ty60 ty61 ty62 ty63 ty64 ty65 ty66 ty67 ty68 ty69 ty70 ty71 ty72 ty73 ty74 ty75 ty76 ty77 ty78 ty79 ty80 ty81 ty82 ty83 ty84 ty85 ty86 ty87 ty88 ty89 ty90 ty92 ty93 ty94 ty95 ty96 ty97 ty98 ty99 ty100 ty101 ty102 ty103 ty104 ty105 ty107 ty108 ty109 ty110 ty111 ty112 ty113 ty114 ty115 ty116 ty117 ty118 ty119 ty123 ty124 ty125 ty126 ty127 ty128 ty129 ty130 ty131 ty132 ty133 ty135 ty136 ty137 ty138 ty139 ty141 ty142 ty143 ty144 ty146 ty147 ty148 ty149 ty153 ty154 ty155 ty156 ty157 ty158 ty159 ty160 ty161 eqs29 eqs61 eqs79 eqs94
def unI : List V → Option (List Int)
  | [] => some []
  | .int .i64 n :: l => (unI l).map fun r => n :: r
  | _ => none
theorem unI_map : ∀ l : List Int, unI (l.map (V.int .i64)) = some l
  | [] => rfl
  | p :: l => by rw [List.map_cons, unI, unI_map l]; rfl
theorem unI_eq : ∀ {es : List V} {l : List Int}, unI es = some l → es = l.map (V.int .i64)
  | [], l, h => by simp [unI] at h; subst h; rfl
  | e :: es, l, h => by
    unfold unI at h
    split at h
    · rename_i he; cases he
    · rename_i n es' he
      simp only [List.cons.injEq] at he
      obtain ⟨rfl, rfl⟩ := he
      simp only [Option.map_eq_some_iff] at h
      obtain ⟨r, hr, rfl⟩ := h
      rw [unI_eq hr]; rfl
    · cases h
/-- a row of ints, nil too -/
def rowIs : V → Option (List Int)
  | .row 1 es => unI es
  | .zero => some []
  | _ => none
theorem rowIs_row (l : List Int) : rowIs (.row 1 (l.map (V.int .i64))) = some l := unI_map l
theorem rowIs_zero : rowIs .zero = some [] := rfl
theorem rowIs_rel {v : V} {l : List Int} (h : rowIs v = some l) {w : World} {ok : Nat → Prop} {val : Value} (hv : RelD w ok v val) : RelD w ok (.row 1 (l.map (V.int .i64))) val := by
  unfold rowIs at h
  split at h
  · rw [← unI_eq h]; exact hv
  · simp at h; subst h
    cases hv
    exact .nil _ _
  · cases h
def rndF : List V → Option (V × List Blk)
  | [.int .i64 n, .int .i64 d, .int .i64 way] => if -4000000000000000000 ≤ n ∧ n ≤ 4000000000000000000 ∧ 1 ≤ d ∧ d ≤ 4000000000000000000 ∧ 0 ≤ way ∧ way ≤ 3 then some (.int .i64 (Rnd.rnd n d way), []) else none
  | _ => none
theorem rndF_eq {n d way : Int} (h : -4000000000000000000 ≤ n ∧ n ≤ 4000000000000000000 ∧ 1 ≤ d ∧ d ≤ 4000000000000000000 ∧ 0 ≤ way ∧ way ≤ 3) : rndF [.int .i64 n, .int .i64 d, .int .i64 way] = some (.int .i64 (Rnd.rnd n d way), []) := by
  unfold rndF; simp only [h, and_self, if_true]
theorem rounded_snd {J : World → Prop} : Snd Tryd.prog J 87 rndF := by
  intro args r bs h
  unfold rndF at h
  split at h
  · rename_i n d way
    split at h
    · rename_i hc
      obtain ⟨rfl, rfl⟩ := some_pair h
      refine sound_plain (callOk Tryd.func87 rfl rfl) rfl rfl fun w _ => (rounded_any n d way w hc.1 hc.2.1 hc.2.2.1 hc.2.2.2.1 hc.2.2.2.2.1 hc.2.2.2.2.2).mono ?_
      rintro e w' ⟨he, k, rfl⟩
      exact ⟨he, below_drewN (.refl _ _) k⟩
    · cases h
  · cases h
theorem rround_snd {J : World → Prop} : Snd Tryd.prog J 70 rndF := by
  intro args r bs h
  unfold rndF at h
  split at h
  · rename_i n d way
    split at h
    · rename_i hc
      obtain ⟨rfl, rfl⟩ := some_pair h
      refine sound_plain (callOk Tryd.func70 rfl rfl) rfl rfl fun w _ => (rround_any n d way w hc.1 hc.2.1 hc.2.2.1 hc.2.2.2.1 hc.2.2.2.2.1 hc.2.2.2.2.2).mono ?_
      rintro e w' ⟨he, rfl⟩
      exact ⟨he, .refl _ _⟩
    · cases h
  · cases h
/-- the steps of a sum -/
def steps (F : Int → Int) (n : Nat) : List Int := (List.range n).map fun k : Nat => F ((k : Int) + 1) - F (k : Int)
theorem steps_succ (F : Int → Int) (k : Nat) : steps F (k + 1) = steps F k ++ [F ((k : Int) + 1) - F (k : Int)] := by
  simp [steps, List.range_succ]
theorem steps_len (F : Int → Int) (k : Nat) : (steps F k).length = k := by simp [steps]
theorem parted_sound {J : World → Prop} (hJ : Stable J) (g : FuncId) (cs : List V) (G : List V → Option (V × List Blk)) (hG : Snd Tryd.prog J g G) (hd : V.dataL cs = true) (F : Int → Int) (n : Nat) (hn : n ≤ 1000)
    (hp : ∀ k : Nat, k ≤ n → G (.int .i64 k :: cs) = some (.int .i64 (F k), [])) (hb : ∀ k : Nat, k ≤ n → -4000000000000000000 ≤ F k ∧ F k ≤ 4000000000000000000) :
    SoundAt Tryd.prog J 68 [.int .i64 n, .fn g cs] (.vec 0) [.vec 3 1 ((steps F n).map (V.int .i64))] := by
  refine evFn (l := [(g, G)]) (nv := (nvL [(5, (3, 1))])) (fz := fz0) (dr := dr68) (dd := dd68) (lam := []) (ms := ms0) ⟨hG, trivial⟩ hJ trivial ms0_ok Tryd.func68 rfl rfl (Nat.le_of_ble_eq_true rfl) (Nat.le_of_ble_eq_true rfl) drOk68 ?_
  dsimp only [Tryd.f68, dr68, dd68, Option.getD_some]
  refine ev_start ?_
  have h0 := hp 0 (Nat.zero_le _)
  simp only [Int.ofNat_zero] at h0
  simp (disch := omega) only [h0, hd, V.dataL, V.data, go_sem, Int.reduceEq, Int.reduceLT, Int.reduceLE, Int.reduceNeg, Nat.reduceAdd, Nat.reduceLT, Nat.reduceEqDiff, Nat.reduceMul, Nat.reduceLeDiff, reduceIte, Nat.reduceBEq, reduceCtorEq, evP_D, evD_guard, evD_cons, evD_zero, evD_nil]
  refine evQ_loop [0, 1, 5, 6, 7] [40] (fun σ => ∃ k : Nat, k ≤ n ∧ σ = ⟨[(0, .int .i64 n), (1, .fn g cs), (5, .vec 40), (6, .int .i64 (F k)), (7, .int .i64 ((k : Int) + 1))], [(40, .vec 3 1 ((steps F k).map (V.int .i64)))]⟩) (fun σ => n + 1 - (match Ev.look 7 σ.env with | some (.int _ n) => n.toNat | _ => 0)) ?_ ?_
  · simp only [refsInL_data hd, go_sem, Int.reduceEq, Int.reduceLT, Int.reduceLE, Int.reduceNeg, Nat.reduceAdd, Nat.reduceLT, Nat.reduceEqDiff, Nat.reduceMul, Nat.reduceLeDiff, reduceIte, Nat.reduceBEq, reduceCtorEq, evP_D, evD_guard, evD_cons, evD_zero, evD_nil]
    exact ⟨0, Nat.zero_le _, rfl⟩
  · rintro σ ⟨k, hk, rfl⟩
    by_cases hlt : k < n
    · have hlt' : (k : Int) + 1 ≤ n := by omega
      have h1 := hp (k + 1) hlt
      have b1 := hb (k + 1) hlt
      have b0 := hb k (by omega)
      have e1 : ((k + 1 : Nat) : Int) = (k : Int) + 1 := by omega
      rw [e1] at h1 b1
      simp (disch := (first | omega | assumption)) only [hlt', h1, hd, refsInL_data hd, scrubL_data hd, V.dataL, V.data, List.length_map, steps_len, go_sem, Int.reduceEq, Int.reduceLT, Int.reduceLE, Int.reduceNeg, Nat.reduceAdd, Nat.reduceLT, Nat.reduceEqDiff, Nat.reduceMul, Nat.reduceLeDiff, reduceIte, Nat.reduceBEq, reduceCtorEq, evP_D, evD_guard, evD_cons, evD_zero, evD_nil]
      exact ⟨⟨k + 1, hlt, by rw [steps_succ, List.map_append, e1]; rfl⟩, by
        have e2 : ((k : Int) + 1).toNat = k + 1 := by omega
        have e3 : ((k : Int) + 1 + 1).toNat = k + 2 := by omega
        rw [e2, e3]; omega⟩
    · have hk' : k = n := by omega
      subst hk'
      have hlt' : ¬ ((k : Int) + 1 ≤ k) := by omega
      simp (disch := (first | omega | assumption)) only [hlt', go_sem, Int.reduceEq, Int.reduceLT, Int.reduceLE, Int.reduceNeg, Nat.reduceAdd, Nat.reduceLT, Nat.reduceEqDiff, Nat.reduceMul, Nat.reduceLeDiff, reduceIte, Nat.reduceBEq, reduceCtorEq, evP_D, evD_guard, evD_cons, evD_zero, evD_nil]
end Go.Proofs.YtdmkmbaaemhhhaaDoor
