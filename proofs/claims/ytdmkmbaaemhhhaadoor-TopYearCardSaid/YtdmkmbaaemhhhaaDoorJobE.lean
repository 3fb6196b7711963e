/-
  Plans, run by the machine: what may be.
-/
import Derived.Test.YtdmkmbaaemhhhaaDoorJobP
import Derived.Test.YtdmkmbaaemhhhaaDoorShP
import Derived.Test.YtdmkmbaaemhhhaaDoorEnF
import Derived.Test.YtdmkmbaaemhhhaaDoorCalB
import Derived.Test.YtdmkmbaaemhhhaaDoorCalT
namespace Go.Proofs.YtdmkmbaaemhhhaaDoor
open Go Go.Ev Go.RowKit Go.Job Go.Acc
set_option maxHeartbeats 4000000
set_option linter.unusedSimpArgs false
set_option linter.unusedVariables false
attribute [local go_sem] mutV getB mvB bkB V.mv V.mvL V.bk V.bkL Blk.mv Blk.bk posN nmN backN noDup app_writes setHL_nil setHL_cons postM_ret postM_normal resM hasB_nil hasB_cons St.mut names_nil names_cons sortV cellOf mkX_M mkX_S mkX_ln lnL_at ms0_mt ms0_st V.lone V.loneL List.zip_cons_cons List.zip_nil_left Option.isNone_none bornV subE partR unB bytesW boundsV ownP sliceW copyV clearV lenM takeV tk1 mapsV mkMapV hintOk lookV updV mapKE keyOk V.key app_lend callW_fn lendV postL_ret postL_normal postT_ret postT_normal takeR St.lent mkX_L bin_eql_vz bin_eql_zv bin_eql_rz bin_eql_zr bin_eql_zz bin_neq_vz bin_neq_zv bin_neq_rz bin_neq_zr bin_neq_zz eqH nilEq nonE plainI gOf_bool gOf_skip g_some g_none Int.ofNat_zero Int.cast_ofNat_Int Bool.false_and Bool.and_false sliceV noBox elemsZ V.scrub V.scrubL Blk.scrub appendV isSlice maxLen_eq leT List.contains_nil List.contains_cons nvL_at fzL_at fillV V.plain V.plainL Blk.plain List.size_toArray mapO_nil mapO_cons Option.isNone_some beqT beqF oI_not mkX_e phi_nil phi_cons bin_eql_bool bin_neq_bool bin_eql_agg bin_neq_agg eqV eqFs eqK_int eqK_bool' eqK_str mkX_T mkX_Φ mkX_n mkX_f mkX_d mkX_r nv0_at fz0_at evQ_dr evP_W evW_nil evW_cons evW_guard okW_eq tame_none tame_new tame_write wb_none wb_new wb_write okU_some offW_none offW_some touchOf V.noRef V.noRefL Option.isSome_some Option.isSome_none mild_none mild_new Option.getD_some Option.getD_none evQ_seq evQ_region evQ_block evQ_cond evQ_ret evQ_skip evQ_exit evO_cons evO_nil evO_guard freezeL_nil oS_some oS_none oS_ite oS_ite' oB_bool oI_true oI_false oE_normal oE_exit oE_ret bQ_normal bQ_ret bQ_exit lQ_normal lQ_ret lQ_exit List.zipIdx_cons List.zipIdx_nil List.map_cons List.map_nil evalOp opd_const opd_tmp opd_func ofC_int ofC_bool ofC_str ofC_nil app_none app_new app_write app_change putE_some putE_none setA_cons setA_nil setH_cons setH_nil mapA_cons mapA_nil look_cons look_nil e_mk h_mk drop_nil drop_mk keep_mk dstOk_some dstOk_none guardT_eq true_and and_true Bool.not_false Bool.not_true selB_true selB_false mem_nil mem_cons kpL_nil kpL_cons drL_nil drL_cons closed_mk V.refsIn V.refsInL Blk.refsIn List.all_cons List.all_nil lenV bin_add bin_sub bin_mul bin_quo bin_rem bin_eql bin_neq bin_lss bin_leq bin_gtr bin_geq un_neg un_not post_ret post_normal St.init Bool.false_eq_true List.length_map Bool.or_false Bool.or_true Bool.false_or Bool.true_or beq_self_eq_true Option.map_some Option.map_none Option.bind_some List.getElem?_cons_zero List.getElem?_cons_succ scalar stor isAggV V.cells List.cons_append List.nil_append if_true if_false wrap_of callV V.dataL V.data Bool.and_true Bool.true_and fresh names V.ren V.renL retV resV packL packV packC getBlks wrapR subV putV decide_true decide_false TK.agg List.length_cons List.length_nil List.take_succ_cons List.take_zero List.drop_succ_cons List.drop_zero List.take_nil List.drop_nil Nat.zero_add Nat.add_zero List.append_nil List.getElem?_nil elemsV ro ro0 ro1 roC ty1 ty2 ty3 ty4 ty5 ty6 ty7 ty8 ty9 ty10 ty11 ty12 ty13 ty14 ty15 ty16 ty17 ty18 ty19 ty21 ty22 ty23 ty24 ty26 ty27 ty28 ty29 ty30 ty31 ty32 ty33 ty34 ty35 ty36 ty37 ty38 ty39 ty40 ty41 ty42 ty44 ty45 ty47 ty49 ty51 ty53 ty54 ty55 ty56 ty57 ty58 ty59 ty60 ty61 ty62 ty63 ty64 ty65 ty66 ty67 ty68 ty69 ty70 ty71 ty72 ty73 ty74 ty75 ty76 ty77 ty78 ty79 ty80 ty81 ty82 ty83 ty84 ty85 ty86 ty87 ty88 ty89 ty90 ty92 ty93 ty94 ty95 ty96 ty97 ty98 ty99 ty100 ty101 ty102 ty103 ty104 ty105 ty107 ty108 ty109 ty110 ty111 ty112 ty113 ty114 ty115 ty116 ty117 ty118 ty119 ty123 ty124 ty125 ty126 ty127 ty128 ty129 ty130 ty131 ty132 ty133 ty135 ty136 ty137 ty138 ty139 ty141 ty142 ty143 ty144 ty146 ty147 ty148 ty149 ty153 ty154 ty155 ty156 ty157 ty158 ty159 ty160 ty161 eqs29 eqs61 eqs79 eqs94
/-- contracts at a family of arguments -/
theorem famj {P : Program} {J : World → Prop} {f : FuncId} {α : Type} (a : α → List V) (r : α → V × List Ev.Blk) (hi : ∀ i j, a i = a j → r i = r j) (h : ∀ i, SoundAt P J f (a i) (r i).1 (r i).2) :
    ∃ F : List V → Option (V × List Ev.Blk), (∀ i, F (a i) = some (r i)) ∧ Snd P J f F := by
  refine ⟨fun x => open Classical in if h : ∃ i, a i = x then some (r h.choose) else none, fun i => ?_, fun args r' bs h' => ?_⟩
  · have hx : ∃ j, a j = a i := ⟨i, rfl⟩
    simp only [dif_pos hx]
    rw [hi _ _ hx.choose_spec]
  · by_cases hx : ∃ i, a i = args
    · simp only [dif_pos hx] at h'
      have e := Option.some.inj h'
      have := h hx.choose
      rw [e, hx.choose_spec] at this
      exact this
    · simp only [dif_neg hx] at h'
      cases h'
theorem stableTab : Stable Tab := fun _ _ h hb => h.below hb
def addN (n k : Int) : Int := if 0 ≤ Cal.mon n + k ∧ Cal.mon n + k < 9600 then Cal.add n k else 0
def addE (n k : Int) : Int := if 0 ≤ Cal.mon n + k ∧ Cal.mon n + k < 9600 then 0 else 2
theorem addE_iff {n k : Int} : (addE n k = 0 ↔ 0 ≤ Cal.mon n + k ∧ Cal.mon n + k < 9600) := by
  unfold addE
  split
  · rename_i h; exact ⟨fun _ => h, fun _ => rfl⟩
  · rename_i h; exact ⟨fun h' => by omega, fun h' => absurd h' h⟩
def addF : List V → Option (V × List Ev.Blk)
  | [.int .i64 n, .int .i64 k] => if (0 ≤ n ∧ n ≤ 292193) ∧ -9600 ≤ k ∧ k ≤ 9600 then some (.tup [.int .i64 (addN n k), .int .i64 (addE n k)], []) else none
  | _ => none
theorem addF_eq {n k : Int} (h : (0 ≤ n ∧ n ≤ 292193) ∧ -9600 ≤ k ∧ k ≤ 9600) : addF [.int .i64 n, .int .i64 k] = some (.tup [.int .i64 (addN n k), .int .i64 (addE n k)], []) := if_pos h
theorem add_snd : Snd Tryd.prog Tab 23 addF := by
  intro args r bs h
  unfold addF at h
  split at h
  · split at h
    · rename_i n k hc
      obtain ⟨rfl, rfl⟩ := some_pair h
      by_cases hm : 0 ≤ Cal.mon n + k ∧ Cal.mon n + k < 9600
      · have e1 : addN n k = Cal.ofMon (Cal.mon n + k) (Cal.dD n) := by unfold addN Cal.add; rw [if_pos hm, if_pos hm]
        have e2 : addE n k = 0 := if_pos hm
        rw [e1, e2]
        exact sound_plain (callOk Tryd.func23 rfl rfl) rfl rfl fun w ht => add_ok n k w ht hc.1.1 hc.1.2 hc.2.1 hc.2.2 hm.1 hm.2
      · have e1 : addN n k = 0 := if_neg hm
        have e2 : addE n k = 2 := if_neg hm
        rw [e1, e2]
        exact sound_plain (callOk Tryd.func23 rfl rfl) rfl rfl fun w ht => add_large n k w ht hc.1.1 hc.1.2 hc.2.1 hc.2.2 (by omega)
    · cases h
  · cases h
def rdaF : List V → Option (V × List Ev.Blk)
  | [.int .i64 n, .int .i64 k] => if (0 ≤ n ∧ n ≤ 292193) ∧ -9600 ≤ k ∧ k ≤ 9600 then some (.int .i64 (Cal.add n k), []) else none
  | _ => none
theorem rdaF_eq {n k : Int} (h : (0 ≤ n ∧ n ≤ 292193) ∧ -9600 ≤ k ∧ k ≤ 9600) : rdaF [.int .i64 n, .int .i64 k] = some (.int .i64 (Cal.add n k), []) := if_pos h
theorem rda_snd {J : World → Prop} : Snd Tryd.prog J 29 rdaF := by
  intro args r bs h
  unfold rdaF at h
  split at h
  · split at h
    · rename_i n k hc
      obtain ⟨rfl, rfl⟩ := some_pair h
      exact sound_plain (callOk Tryd.func29 rfl rfl) rfl rfl fun w _ => radd_any n k w hc.1.1 hc.1.2 hc.2.1 hc.2.2
    · cases h
  · cases h
theorem dash_code : (45 : UInt8).toNat = 45 := rfl
def conF : List V → Option (V × List Ev.Blk)
  | [.str s, .str d] => if d = ⟨#[45]⟩ then some (.bool (dash s), []) else none
  | _ => none
theorem conF_eq (s : ByteArray) : conF [.str s, .str ⟨#[45]⟩] = some (.bool (dash s), []) := by simp [conF]
theorem con_snd {J : World → Prop} : Snd Tryd.prog J 65 conF := by
  intro args r bs h
  unfold conF at h
  split at h
  · split at h
    · rename_i s d hc
      obtain ⟨rfl, rfl⟩ := some_pair h
      subst hc
      exact sound_plain (callOk Tryd.func65 rfl rfl) rfl rfl fun w _ => (show Calls Tryd.prog 65 _ w _ from Any.strings_Contains_one Tryd.lays144 s 45 w).mono (by rintro e w' ⟨rfl, rfl⟩; exact ⟨rfl, .refl _ _⟩)
    · cases h
  · cases h
def ixdF : List V → Option (V × List Ev.Blk)
  | [.str s, .int .u8 n] => if n = 45 then some (.int .i64 (Lib.indexByte s.data.toList 45), []) else none
  | _ => none
theorem ixdF_eq (s : ByteArray) : ixdF [.str s, .int .u8 45] = some (.int .i64 (Lib.indexByte s.data.toList 45), []) := by simp [ixdF]
theorem ixd_snd {J : World → Prop} : Snd Tryd.prog J 26 ixdF := by
  intro args r bs h
  unfold ixdF at h
  split at h
  · split at h
    · rename_i s n hc
      obtain ⟨rfl, rfl⟩ := some_pair h
      subst hc
      exact sound_plain (callOk Tryd.func26 rfl rfl) rfl rfl fun w _ => (show Calls Tryd.prog 26 _ w _ from Any.strings_IndexByte Tryd.lays137 s 45 w).mono (by rintro e w' ⟨rfl, rfl⟩; exact ⟨rfl, .refl _ _⟩)
    · cases h
  · cases h
set_option maxRecDepth 100000 in
set_option maxHeartbeats 4000000 in
theorem one_sound (p : Pl) : SoundAt Tryd.prog Tab 30 [plV p] (.int .i64 (oneE keyOk' codeOk p)) [] := by
  have hJ := stableTab
  unfold plV
  refine evFn (l := [(64, keyF), (65, conF), (21, dayF), (66, codeF), (23, addF)]) (nv := nv0) (fz := fz0) (dr := dr30) (dd := dd30) (lam := []) (ms := ms0) ⟨key_snd hJ, con_snd, is_snd hJ, code_snd hJ, add_snd, trivial⟩ hJ trivial ms0_ok Tryd.func30 rfl rfl (Nat.le_of_ble_eq_true rfl) (Nat.le_of_ble_eq_true rfl) drOk30 ?_
  dsimp only [Tryd.f30, dr30, dd30, Option.getD_some]
  refine ev_start ?_
  by_cases hk : badKey keyOk' p
  · have e : oneE keyOk' codeOk p = 3 := if_pos hk
    rw [e]
    cases h1 : keyOk' p.key with
    | false => simp (disch := omega) only [keyF_eq, h1, go_sem, Int.reduceEq, Int.reduceLT, Int.reduceLE, Int.reduceNeg, Nat.reduceAdd, Nat.reduceLT, Nat.reduceEqDiff, Nat.reduceMul, Nat.reduceLeDiff, reduceIte, Nat.reduceBEq, reduceCtorEq, evP_D, evD_guard, evD_cons, evD_zero, evD_nil]
    | true =>
      by_cases h2 : (9 : Int) < p.key.size
      · simp (disch := omega) only [keyF_eq, h1, h2, go_sem, Int.reduceEq, Int.reduceLT, Int.reduceLE, Int.reduceNeg, Nat.reduceAdd, Nat.reduceLT, Nat.reduceEqDiff, Nat.reduceMul, Nat.reduceLeDiff, reduceIte, Nat.reduceBEq, reduceCtorEq, evP_D, evD_guard, evD_cons, evD_zero, evD_nil]
      · have h3 : dash p.key = true := by
          rcases hk with h | h | h
          · rw [h1] at h; cases h
          · omega
          · exact h
        simp (disch := omega) only [keyF_eq, h1, h2, conF_eq, h3, go_sem, Int.reduceEq, Int.reduceLT, Int.reduceLE, Int.reduceNeg, Nat.reduceAdd, Nat.reduceLT, Nat.reduceEqDiff, Nat.reduceMul, Nat.reduceLeDiff, reduceIte, Nat.reduceBEq, reduceCtorEq, evP_D, evD_guard, evD_cons, evD_zero, evD_nil]
  have hk1 : keyOk' p.key = true := by
    cases h : keyOk' p.key with
    | true => rfl
    | false => exact absurd (.inl h) hk
  have hk2 : ¬ (9 : Int) < p.key.size := fun h => hk (.inr (.inl (by omega)))
  have hk3 : dash p.key = false := by
    cases h : dash p.key with
    | false => rfl
    | true => exact absurd (.inr (.inr h)) hk
  by_cases hn : badNum p
  · have e : oneE keyOk' codeOk p = 1 := by unfold oneE; rw [if_neg hk, if_pos hn]
    rw [e]
    unfold badNum at hn
    by_cases k1 : p.kind < 0
    · simp (disch := omega) only [keyF_eq, hk1, hk2, conF_eq, hk3, k1, go_sem, Int.reduceEq, Int.reduceLT, Int.reduceLE, Int.reduceNeg, Nat.reduceAdd, Nat.reduceLT, Nat.reduceEqDiff, Nat.reduceMul, Nat.reduceLeDiff, reduceIte, Nat.reduceBEq, reduceCtorEq, evP_D, evD_guard, evD_cons, evD_zero, evD_nil]
    by_cases k2 : 1 < p.kind
    · simp (disch := omega) only [keyF_eq, hk1, hk2, conF_eq, hk3, k1, k2, go_sem, Int.reduceEq, Int.reduceLT, Int.reduceLE, Int.reduceNeg, Nat.reduceAdd, Nat.reduceLT, Nat.reduceEqDiff, Nat.reduceMul, Nat.reduceLeDiff, reduceIte, Nat.reduceBEq, reduceCtorEq, evP_D, evD_guard, evD_cons, evD_zero, evD_nil]
    by_cases k3 : 0 ≤ p.at_ ∧ p.at_ ≤ 292193
    case neg =>
      have k3' : decide (0 ≤ p.at_ ∧ p.at_ ≤ 292193) = false := decide_eq_false k3
      simp (disch := omega) only [keyF_eq, hk1, hk2, conF_eq, hk3, k1, k2, dayF_eq, k3', go_sem, Int.reduceEq, Int.reduceLT, Int.reduceLE, Int.reduceNeg, Nat.reduceAdd, Nat.reduceLT, Nat.reduceEqDiff, Nat.reduceMul, Nat.reduceLeDiff, reduceIte, Nat.reduceBEq, reduceCtorEq, evP_D, evD_guard, evD_cons, evD_zero, evD_nil]
    by_cases k4 : p.amt < 0
    · simp (disch := omega) only [keyF_eq, hk1, hk2, conF_eq, hk3, k1, k2, dayF_eq, k3, and_self, k4, go_sem, Int.reduceEq, Int.reduceLT, Int.reduceLE, Int.reduceNeg, Nat.reduceAdd, Nat.reduceLT, Nat.reduceEqDiff, Nat.reduceMul, Nat.reduceLeDiff, reduceIte, Nat.reduceBEq, reduceCtorEq, evP_D, evD_guard, evD_cons, evD_zero, evD_nil]
    by_cases k5 : 1000000000000 < p.amt
    · simp (disch := omega) only [keyF_eq, hk1, hk2, conF_eq, hk3, k1, k2, dayF_eq, k3, and_self, k4, k5, go_sem, Int.reduceEq, Int.reduceLT, Int.reduceLE, Int.reduceNeg, Nat.reduceAdd, Nat.reduceLT, Nat.reduceEqDiff, Nat.reduceMul, Nat.reduceLeDiff, reduceIte, Nat.reduceBEq, reduceCtorEq, evP_D, evD_guard, evD_cons, evD_zero, evD_nil]
    by_cases k6 : p.num < 1
    · simp (disch := omega) only [keyF_eq, hk1, hk2, conF_eq, hk3, k1, k2, dayF_eq, k3, and_self, k4, k5, k6, go_sem, Int.reduceEq, Int.reduceLT, Int.reduceLE, Int.reduceNeg, Nat.reduceAdd, Nat.reduceLT, Nat.reduceEqDiff, Nat.reduceMul, Nat.reduceLeDiff, reduceIte, Nat.reduceBEq, reduceCtorEq, evP_D, evD_guard, evD_cons, evD_zero, evD_nil]
    have k7 : 40 < p.num := by omega
    simp (disch := omega) only [keyF_eq, hk1, hk2, conF_eq, hk3, k1, k2, dayF_eq, k3, and_self, k4, k5, k6, k7, go_sem, Int.reduceEq, Int.reduceLT, Int.reduceLE, Int.reduceNeg, Nat.reduceAdd, Nat.reduceLT, Nat.reduceEqDiff, Nat.reduceMul, Nat.reduceLeDiff, reduceIte, Nat.reduceBEq, reduceCtorEq, evP_D, evD_guard, evD_cons, evD_zero, evD_nil]
  have k1 : ¬ p.kind < 0 := fun h => hn (.inl (by omega))
  have k2 : ¬ 1 < p.kind := fun h => hn (.inl (by omega))
  have k3 : 0 ≤ p.at_ ∧ p.at_ ≤ 292193 := Classical.byContradiction fun h => hn (.inr (.inl h))
  have k4 : ¬ p.amt < 0 := fun h => hn (.inr (.inr (.inl (by omega))))
  have k5 : ¬ 1000000000000 < p.amt := fun h => hn (.inr (.inr (.inl (by omega))))
  have k6 : ¬ p.num < 1 := fun h => hn (.inr (.inr (.inr (by omega))))
  have k7 : ¬ 40 < p.num := fun h => hn (.inr (.inr (.inr (by omega))))
  by_cases hc : badCode codeOk p
  · have e : oneE keyOk' codeOk p = 3 := by unfold oneE; rw [if_neg hk, if_neg hn, if_pos hc]
    rw [e]
    cases h1 : codeOk p.deb with
    | false => simp (disch := omega) only [keyF_eq, hk1, hk2, conF_eq, hk3, k1, k2, dayF_eq, k3, and_self, k4, k5, k6, k7, codeF_eq, h1, go_sem, Int.reduceEq, Int.reduceLT, Int.reduceLE, Int.reduceNeg, Nat.reduceAdd, Nat.reduceLT, Nat.reduceEqDiff, Nat.reduceMul, Nat.reduceLeDiff, reduceIte, Nat.reduceBEq, reduceCtorEq, evP_D, evD_guard, evD_cons, evD_zero, evD_nil]
    | true =>
      cases h2 : codeOk p.cre with
      | false => simp (disch := omega) only [keyF_eq, hk1, hk2, conF_eq, hk3, k1, k2, dayF_eq, k3, and_self, k4, k5, k6, k7, codeF_eq, h1, h2, go_sem, Int.reduceEq, Int.reduceLT, Int.reduceLE, Int.reduceNeg, Nat.reduceAdd, Nat.reduceLT, Nat.reduceEqDiff, Nat.reduceMul, Nat.reduceLeDiff, reduceIte, Nat.reduceBEq, reduceCtorEq, evP_D, evD_guard, evD_cons, evD_zero, evD_nil]
      | true =>
        have h3 : p.deb = p.cre := by
          rcases hc with h | h | h
          · rw [h1] at h; cases h
          · rw [h2] at h; cases h
          · exact h
        have h4 : decide (p.deb = p.cre) = true := decide_eq_true h3
        simp (disch := omega) only [keyF_eq, hk1, hk2, conF_eq, hk3, k1, k2, dayF_eq, k3, and_self, k4, k5, k6, k7, codeF_eq, h1, h2, bin_eql_str, h4, go_sem, Int.reduceEq, Int.reduceLT, Int.reduceLE, Int.reduceNeg, Nat.reduceAdd, Nat.reduceLT, Nat.reduceEqDiff, Nat.reduceMul, Nat.reduceLeDiff, reduceIte, Nat.reduceBEq, reduceCtorEq, evP_D, evD_guard, evD_cons, evD_zero, evD_nil]
  have c1 : codeOk p.deb = true := by
    cases h : codeOk p.deb with
    | true => rfl
    | false => exact absurd (.inl h) hc
  have c2 : codeOk p.cre = true := by
    cases h : codeOk p.cre with
    | true => rfl
    | false => exact absurd (.inr (.inl h)) hc
  have c3 : decide (p.deb = p.cre) = false := decide_eq_false fun h => hc (.inr (.inr h))
  have ha := addF_eq (n := p.at_) (k := p.num - 1) (by omega)
  by_cases hm : addE p.at_ (p.num - 1) = 0
  · have hm' := addE_iff.1 hm
    have e : oneE keyOk' codeOk p = 0 := by
      unfold oneE
      rw [if_neg hk, if_neg hn, if_neg hc, if_neg]
      obtain ⟨⟨_, _, _, _, d1, d2⟩, _⟩ := Cal.date_ok p.at_ k3.1 k3.2
      have := (Cal.num_bd _ _ _ (Cal.vld_mon (Cal.mon p.at_ + (p.num - 1)) (Cal.dD p.at_) hm'.1 hm'.2 d1)).1
      unfold Cal.add
      rw [if_pos hm']
      unfold Cal.ofMon
      omega
    rw [e]
    simp (disch := omega) only [keyF_eq, hk1, hk2, conF_eq, hk3, k1, k2, dayF_eq, k3, and_self, k4, k5, k6, k7, codeF_eq, c1, c2, bin_eql_str, c3, ha, hm, go_sem, Int.reduceEq, Int.reduceLT, Int.reduceLE, Int.reduceNeg, Nat.reduceAdd, Nat.reduceLT, Nat.reduceEqDiff, Nat.reduceMul, Nat.reduceLeDiff, reduceIte, Nat.reduceBEq, reduceCtorEq, evP_D, evD_guard, evD_cons, evD_zero, evD_nil]
  · have hm' : ¬ (0 ≤ Cal.mon p.at_ + (p.num - 1) ∧ Cal.mon p.at_ + (p.num - 1) < 9600) := fun h => hm (addE_iff.2 h)
    have e : oneE keyOk' codeOk p = 2 := by
      unfold oneE
      rw [if_neg hk, if_neg hn, if_neg hc, if_pos]
      unfold Cal.add
      rw [if_neg hm']
      omega
    rw [e]
    simp (disch := omega) only [keyF_eq, hk1, hk2, conF_eq, hk3, k1, k2, dayF_eq, k3, and_self, k4, k5, k6, k7, codeF_eq, c1, c2, bin_eql_str, c3, ha, hm, go_sem, Int.reduceEq, Int.reduceLT, Int.reduceLE, Int.reduceNeg, Nat.reduceAdd, Nat.reduceLT, Nat.reduceEqDiff, Nat.reduceMul, Nat.reduceLeDiff, reduceIte, Nat.reduceBEq, reduceCtorEq, evP_D, evD_guard, evD_cons, evD_zero, evD_nil]
theorem onex : ∃ F : List V → Option (V × List Ev.Blk), (∀ p : Pl, F [plV p] = some (.int .i64 (oneE keyOk' codeOk p), [])) ∧ Snd Tryd.prog Tab 30 F := by
  exact famj (P := Tryd.prog) (J := Tab) (f := 30) (fun p : Pl => [plV p]) (fun p => (.int .i64 (oneE keyOk' codeOk p), [])) (fun i j h => by
    simp only [List.cons.injEq, and_true] at h
    rw [plV_inj1 h]) fun p => one_sound p
end Go.Proofs.YtdmkmbaaemhhhaaDoor
