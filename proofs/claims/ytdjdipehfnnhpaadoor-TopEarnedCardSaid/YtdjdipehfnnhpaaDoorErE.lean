/-
  What is earned day by day, run by the machine beside books.
-/
import Derived.Test.YtdjdipehfnnhpaaDoorEnE
import Derived.Test.YtdjdipehfnnhpaaDoorCalB
import Derived.Test.YtdjdipehfnnhpaaDoorEarnP
namespace Go.Proofs.YtdjdipehfnnhpaaDoor
open Go Go.Ev Go.RowKit Earn
set_option maxHeartbeats 4000000
set_option linter.unusedSimpArgs false
set_option linter.unusedVariables false
attribute [local go_sem] lenM takeV tk1 mapsV mkMapV hintOk lookV updV mapKE keyOk V.key app_lend callW_fn lendV postL_ret postL_normal St.lent mkX_L bin_eql_vz bin_eql_zv bin_eql_rz bin_eql_zr bin_eql_zz bin_neq_vz bin_neq_zv bin_neq_rz bin_neq_zr bin_neq_zz eqH nilEq nonE plainI gOf_bool gOf_skip g_some g_none Int.ofNat_zero Int.cast_ofNat_Int Bool.false_and Bool.and_false sliceV noBox elemsZ V.scrub V.scrubL Blk.scrub appendV isSlice maxLen_eq leT List.contains_nil List.contains_cons nvL_at fzL_at fillV V.plain V.plainL Blk.plain List.size_toArray mapO_nil mapO_cons Option.isNone_none Option.isNone_some beqT beqF oI_not mkX_e phi_nil phi_cons bin_eql_bool bin_neq_bool bin_eql_agg bin_neq_agg eqV eqFs eqK_int eqK_bool' eqK_str mkX_T mkX_Φ mkX_n mkX_f mkX_d mkX_r nv0_at fz0_at evQ_dr evP_W evW_nil evW_cons evW_guard okW_eq tame_none tame_new tame_write wb_none wb_new wb_write okU_some offW_none offW_some touchOf V.noRef V.noRefL Option.isSome_some Option.isSome_none mild_none mild_new Option.getD_some Option.getD_none evQ_seq evQ_region evQ_block evQ_cond evQ_ret evQ_skip evQ_exit evO_cons evO_nil evO_guard freezeL_nil oS_some oS_none oS_ite oS_ite' oB_bool oI_true oI_false oE_normal oE_exit oE_ret bQ_normal bQ_ret bQ_exit lQ_normal lQ_ret lQ_exit List.zipIdx_cons List.zipIdx_nil List.map_cons List.map_nil evalOp opd_const opd_tmp opd_func ofC_int ofC_bool ofC_str ofC_nil app_none app_new app_write app_change putE_some putE_none setA_cons setA_nil setH_cons setH_nil mapA_cons mapA_nil look_cons look_nil e_mk h_mk drop_nil drop_mk keep_mk dstOk_some dstOk_none guardT_eq true_and and_true Bool.not_false Bool.not_true selB_true selB_false mem_nil mem_cons kpL_nil kpL_cons drL_nil drL_cons closed_mk V.refsIn V.refsInL Blk.refsIn List.all_cons List.all_nil lenV bin_add bin_sub bin_mul bin_quo bin_rem bin_eql bin_neq bin_lss bin_leq bin_gtr bin_geq un_neg un_not post_ret post_normal St.init Bool.false_eq_true List.length_map Bool.or_false Bool.or_true Bool.false_or Bool.true_or beq_self_eq_true Option.map_some Option.map_none Option.bind_some List.getElem?_cons_zero List.getElem?_cons_succ scalar stor isAggV V.cells List.cons_append List.nil_append if_true if_false wrap_of callV V.dataL V.data Bool.and_true Bool.true_and fresh names V.ren V.renL retV resV packL packV packC getBlks wrapR subV putV decide_true decide_false TK.agg List.length_cons List.length_nil List.take_succ_cons List.take_zero List.drop_succ_cons List.drop_zero List.take_nil List.drop_nil Nat.zero_add Nat.add_zero List.append_nil List.getElem?_nil elemsV ro ro0 ro1 roC ty2 ty3 ty4 ty5 ty6 ty7 ty8 ty9 ty10 ty11 ty12 ty13 ty14 ty18 ty19 ty21 ty24 ty25 ty28 ty29 ty30 ty31 ty35 ty36 ty37 ty45 ty50 ty51 ty71 ty75 ty79 ty80 ty84 ty91 ty92 ty98 ty99 ty109 ty114 ty129 ty134 ty146 ty158 ty159 ty160 ty161 ty165 ty166 ty171 ty172 ty175 ty176 ty177 ty178 eqs51 eqs80 eqs92 eqs99
theorem stableT : Stable Tab := fun _ _ h hb => h.below hb
def lastF : List V → Option (V × List Blk)
  | [.int .i64 n] => if 0 ≤ n ∧ n ≤ 292193 then some (.tup [.int .i64 (Cal.last n), .int .i64 0], []) else none
  | _ => none
theorem lastF_eq {n : Int} (h : 0 ≤ n ∧ n ≤ 292193) : lastF [.int .i64 n] = some (.tup [.int .i64 (Cal.last n), .int .i64 0], []) := by unfold lastF; simp only [h, and_self, if_true]
theorem last_snd : Snd Tryd.prog Tab 15 lastF := by
  intro args r bs h
  unfold lastF at h
  split at h
  · split at h
    · rename_i n hc
      obtain ⟨rfl, rfl⟩ := some_pair h
      exact sound_plain (callOk Tryd.func15 rfl rfl) rfl rfl fun w hw => last_ok n w hw hc.1 hc.2
    · cases h
  · cases h
theorem smoney_snd {J : World → Prop} (hJ : Stable J) : Snd Tryd.prog J 87 moneyF := by
  intro args r bs h
  unfold moneyF at h
  split at h
  · rename_i x
    obtain ⟨rfl, rfl⟩ := some_pair h
    refine evFn (l := []) (nv := nv0) (fz := fz0) (dr := dr87) (dd := dd87) (lam := []) trivial hJ trivial Tryd.func87 rfl rfl (Nat.le_of_ble_eq_true rfl) (Nat.le_of_ble_eq_true rfl) drOk87 ?_
    dsimp only [Tryd.f87, dr87, dd87, Option.getD_some]
    refine ev_start ?_
    by_cases h1 : -1000000000000 ≤ x
    · by_cases h2 : x ≤ 1000000000000
      · simp (disch := omega) only [h1, h2, and_self, go_sem, Int.reduceEq, Int.reduceLT, Int.reduceLE, Int.reduceNeg, Nat.reduceAdd, Nat.reduceLT, Nat.reduceEqDiff, Nat.reduceMul, Nat.reduceLeDiff, reduceIte, Nat.reduceBEq, reduceCtorEq, evP_D, evD_guard, evD_cons, evD_zero, evD_nil]
      · simp (disch := omega) only [h1, h2, and_self, and_false, go_sem, Int.reduceEq, Int.reduceLT, Int.reduceLE, Int.reduceNeg, Nat.reduceAdd, Nat.reduceLT, Nat.reduceEqDiff, Nat.reduceMul, Nat.reduceLeDiff, reduceIte, Nat.reduceBEq, reduceCtorEq, evP_D, evD_guard, evD_cons, evD_zero, evD_nil]
    · simp (disch := omega) only [h1, false_and, go_sem, Int.reduceEq, Int.reduceLT, Int.reduceLE, Int.reduceNeg, Nat.reduceAdd, Nat.reduceLT, Nat.reduceEqDiff, Nat.reduceMul, Nat.reduceLeDiff, reduceIte, Nat.reduceBEq, reduceCtorEq, evP_D, evD_guard, evD_cons, evD_zero, evD_nil]
  · cases h
def okE (a f t : Int) : Prop := (-1000000000000 ≤ a ∧ a ≤ 1000000000000) ∧ (0 ≤ f ∧ f ≤ 292193) ∧ (0 ≤ t ∧ t ≤ 292193) ∧ f ≤ t
instance (a f t : Int) : Decidable (okE a f t) := by unfold okE; infer_instance
def elookF : List V → Option (V × List Blk)
  | [.int .i64 a, .int .i64 f, .int .i64 t] => some (.int .i64 (if okE a f t then 0 else 1), [])
  | _ => none
theorem elookF_eq (a f t : Int) : elookF [.int .i64 a, .int .i64 f, .int .i64 t] = some (.int .i64 (if okE a f t then 0 else 1), []) := rfl
theorem elook_snd {J : World → Prop} (hJ : Stable J) : Snd Tryd.prog J 48 elookF := by
  intro args r bs h
  unfold elookF at h
  split at h
  · rename_i a f t
    obtain ⟨rfl, rfl⟩ := some_pair h
    refine evFn (l := [(87, moneyF), (60, dayF)]) (nv := nv0) (fz := fz0) (dr := dr48) (dd := dd48) (lam := []) ⟨smoney_snd hJ, is_snd hJ, trivial⟩ hJ trivial Tryd.func48 rfl rfl (Nat.le_of_ble_eq_true rfl) (Nat.le_of_ble_eq_true rfl) drOk48 ?_
    dsimp only [Tryd.f48, dr48, dd48, Option.getD_some]
    refine ev_start ?_
    by_cases h1 : -1000000000000 ≤ a ∧ a ≤ 1000000000000
    · by_cases h2 : 0 ≤ f ∧ f ≤ 292193
      · by_cases h3 : 0 ≤ t ∧ t ≤ 292193
        · by_cases h4 : t < f
          · have e : ¬ okE a f t := by unfold okE; omega
            simp (disch := omega) only [moneyF_eq, dayF_eq, h1, h2, h3, h4, and_self, e, go_sem, Int.reduceEq, Int.reduceLT, Int.reduceLE, Int.reduceNeg, Nat.reduceAdd, Nat.reduceLT, Nat.reduceEqDiff, Nat.reduceMul, Nat.reduceLeDiff, reduceIte, Nat.reduceBEq, reduceCtorEq, evP_D, evD_guard, evD_cons, evD_zero, evD_nil]
          · have e : okE a f t := ⟨h1, h2, h3, by omega⟩
            simp (disch := omega) only [moneyF_eq, dayF_eq, h1, h2, h3, h4, and_self, e, go_sem, Int.reduceEq, Int.reduceLT, Int.reduceLE, Int.reduceNeg, Nat.reduceAdd, Nat.reduceLT, Nat.reduceEqDiff, Nat.reduceMul, Nat.reduceLeDiff, reduceIte, Nat.reduceBEq, reduceCtorEq, evP_D, evD_guard, evD_cons, evD_zero, evD_nil]
        · have e : ¬ okE a f t := fun h => h3 h.2.2.1
          simp (disch := omega) only [moneyF_eq, dayF_eq, h1, h2, h3, and_self, e, go_sem, Int.reduceEq, Int.reduceLT, Int.reduceLE, Int.reduceNeg, Nat.reduceAdd, Nat.reduceLT, Nat.reduceEqDiff, Nat.reduceMul, Nat.reduceLeDiff, reduceIte, Nat.reduceBEq, reduceCtorEq, evP_D, evD_guard, evD_cons, evD_zero, evD_nil]
      · have e : ¬ okE a f t := fun h => h2 h.2.1
        simp (disch := omega) only [moneyF_eq, dayF_eq, h1, h2, and_self, e, go_sem, Int.reduceEq, Int.reduceLT, Int.reduceLE, Int.reduceNeg, Nat.reduceAdd, Nat.reduceLT, Nat.reduceEqDiff, Nat.reduceMul, Nat.reduceLeDiff, reduceIte, Nat.reduceBEq, reduceCtorEq, evP_D, evD_guard, evD_cons, evD_zero, evD_nil]
    · have e : ¬ okE a f t := fun h => h1 h.1
      simp (disch := omega) only [moneyF_eq, dayF_eq, h1, e, go_sem, Int.reduceEq, Int.reduceLT, Int.reduceLE, Int.reduceNeg, Nat.reduceAdd, Nat.reduceLT, Nat.reduceEqDiff, Nat.reduceMul, Nat.reduceLeDiff, reduceIte, Nat.reduceBEq, reduceCtorEq, evP_D, evD_guard, evD_cons, evD_zero, evD_nil]
  · cases h
def byF : List V → Option (V × List Blk)
  | [.int .i64 a, .int .i64 f, .int .i64 t, .int .i64 day] => if okE a f t ∧ 0 ≤ day ∧ day ≤ 292193 then some (.int .i64 (ear a f t day), []) else none
  | _ => none
theorem byF_eq {a f t day : Int} (h : okE a f t) (h1 : 0 ≤ day ∧ day ≤ 292193) : byF [.int .i64 a, .int .i64 f, .int .i64 t, .int .i64 day] = some (.int .i64 (ear a f t day), []) := by
  unfold byF; simp only [h, h1, and_self, if_true]
theorem by_snd {J : World → Prop} (hJ : Stable J) : Snd Tryd.prog J 49 byF := by
  intro args r bs h
  unfold byF at h
  split at h
  · split at h
    · rename_i a f t day hc
      obtain ⟨rfl, rfl⟩ := some_pair h
      obtain ⟨⟨⟨a0, a1⟩, ⟨f0, f1⟩, ⟨t0, t1⟩, hft⟩, d0, d1⟩ := hc
      have hd := dys_bd (day := day) hft
      have p := Earn.prod_bd a0 a1 hd.1 (show dys f t day ≤ 292194 by omega)
      have r1 : rndF [.int .i64 (a * dys f t day), .int .i64 (t - f + 1), .int .i64 2] = some (.int .i64 (ear a f t day), []) := rndF_eq (by omega)
      have hdd : dys f t day = (if (if t < day then t else day) - f + 1 > 0 then (if t < day then t else day) - f + 1 else 0) := rfl
      refine evFn (l := [(88, rndF)]) (nv := nv0) (fz := fz0) (dr := dr49) (dd := dd49) (lam := []) ⟨rounded_snd, trivial⟩ hJ trivial Tryd.func49 rfl rfl (Nat.le_of_ble_eq_true rfl) (Nat.le_of_ble_eq_true rfl) drOk49 ?_
      dsimp only [Tryd.f49, dr49, dd49, Option.getD_some]
      refine ev_start ?_
      generalize dys f t day = D at *
      by_cases h1 : t < day
      · rw [if_pos h1] at hdd
        rw [if_pos (by omega)] at hdd
        subst hdd
        have h2 : t - f + 1 > 0 := by omega
        simp (disch := omega) only [h1, h2, r1, go_sem, Int.reduceEq, Int.reduceLT, Int.reduceLE, Int.reduceNeg, Nat.reduceAdd, Nat.reduceLT, Nat.reduceEqDiff, Nat.reduceMul, Nat.reduceLeDiff, reduceIte, Nat.reduceBEq, reduceCtorEq, evP_D, evD_guard, evD_cons, evD_zero, evD_nil]
      · rw [if_neg h1] at hdd
        by_cases h2 : day - f + 1 > 0
        · rw [if_pos h2] at hdd
          subst hdd
          simp (disch := omega) only [h1, h2, r1, go_sem, Int.reduceEq, Int.reduceLT, Int.reduceLE, Int.reduceNeg, Nat.reduceAdd, Nat.reduceLT, Nat.reduceEqDiff, Nat.reduceMul, Nat.reduceLeDiff, reduceIte, Nat.reduceBEq, reduceCtorEq, evP_D, evD_guard, evD_cons, evD_zero, evD_nil]
        · rw [if_neg h2] at hdd
          subst hdd
          simp (disch := omega) only [h1, h2, r1, go_sem, Int.reduceEq, Int.reduceLT, Int.reduceLE, Int.reduceNeg, Nat.reduceAdd, Nat.reduceLT, Nat.reduceEqDiff, Nat.reduceMul, Nat.reduceLeDiff, reduceIte, Nat.reduceBEq, reduceCtorEq, evP_D, evD_guard, evD_cons, evD_zero, evD_nil]
    · cases h
  · cases h
/-- the day on which the i-th month begins that counts -/
def dayI (f : Int) (i : Nat) : Int := if i = 0 then f else Cal.fm (Cal.mon f + i)
theorem last_bd {n : Int} (h0 : 0 ≤ n) (h1 : n ≤ 292193) : n ≤ Cal.last n ∧ Cal.last n ≤ 292193 := by
  have hv := (Cal.date_ok n h0 h1).1
  have hl := Cal.last_eq n h0 h1
  have hv2 : Cal.vld (Cal.dY n) (Cal.dM n) (Cal.len (Cal.dY n) (Cal.dM n)) := by
    have := Cal.len_bd (Cal.dY n) (Cal.dM n)
    unfold Cal.vld at hv ⊢; omega
  have := Cal.num_bd _ _ _ hv2
  unfold Cal.vld at hv
  unfold Cal.last at *
  omega
theorem day_step {f t : Int} {i : Nat} (hf0 : 0 ≤ f) (hft : f ≤ t) (ht : t ≤ 292193) (hi : Cal.mon f + i ≤ Cal.mon t) : (0 ≤ dayI f i ∧ dayI f i ≤ t) ∧ Cal.last (dayI f i) = Cal.fm (Cal.mon f + (i + 1 : Nat)) - 1 := by
  have m1 := Cal.mon_bd f hf0 (by omega)
  have m2 := Cal.mon_bd t (by omega) ht
  unfold dayI
  split
  · rename_i h0
    subst h0
    exact ⟨⟨hf0, hft⟩, by rw [last_fm hf0 (by omega)]; rfl⟩
  · obtain ⟨e1, _, e3, e4⟩ := fm_day (k := Cal.mon f + i) (by omega) (by omega)
    refine ⟨⟨e3, (fm_le_day (by omega) ht).2 hi⟩, ?_⟩
    rw [last_fm e3 e4, e1]
    rw [show Cal.mon f + ((i + 1 : Nat) : Int) = Cal.mon f + i + 1 by omega]
theorem day_le {f t : Int} {i : Nat} (hf0 : 0 ≤ f) (hft : f ≤ t) (ht : t ≤ 292193) : dayI f i ≤ t ↔ Cal.mon f + i ≤ Cal.mon t := by
  unfold dayI
  split
  · rename_i h0
    subst h0
    have h1 := Cal.day_fm f hf0 (by omega)
    have : Cal.mon f ≤ Cal.mon t := (fm_le_day (by omega) ht).1 (by omega)
    omega
  · exact fm_le_day (by omega) ht
def many (f t : Int) : Int := Cal.mon t - Cal.mon f + 1
theorem many_pos {f t : Int} (hf0 : 0 ≤ f) (hft : f ≤ t) (ht : t ≤ 292193) : 1 ≤ many f t := by
  have := (day_le (i := 0) hf0 hft ht).1 (by unfold dayI; rw [if_pos rfl]; exact hft)
  unfold many; omega
def monthsV (a f t : Int) : V × List Blk :=
  if okE a f t then
    if many f t ≤ 40 then (.tup [.vec 0, .int .i64 0], [.vec 3 1 ((steps (F a f t) (many f t).toNat).map (V.int .i64))])
    else (.tup [.zero, .int .i64 2], [])
  else (.tup [.zero, .int .i64 1], [])
theorem months_sound (a f t : Int) : SoundAt Tryd.prog Tab 11 [.int .i64 a, .int .i64 f, .int .i64 t] (monthsV a f t).1 (monthsV a f t).2 := by
  have hJ := stableT
  by_cases hok : okE a f t
  case neg =>
    have e : monthsV a f t = (.tup [.zero, .int .i64 1], []) := by unfold monthsV; rw [if_neg hok]
    rw [e]
    refine evFn (l := [(48, elookF)]) (nv := nv0) (fz := fz0) (dr := dr11) (dd := dd11) (lam := []) ⟨elook_snd hJ, trivial⟩ hJ trivial Tryd.func11 rfl rfl (Nat.le_of_ble_eq_true rfl) (Nat.le_of_ble_eq_true rfl) drOk11 ?_
    dsimp only [Tryd.f11, dr11, dd11, Option.getD_some]
    refine ev_start ?_
    simp (disch := omega) only [elookF_eq, hok, go_sem, Int.reduceEq, Int.reduceLT, Int.reduceLE, Int.reduceNeg, Nat.reduceAdd, Nat.reduceLT, Nat.reduceEqDiff, Nat.reduceMul, Nat.reduceLeDiff, reduceIte, Nat.reduceBEq, reduceCtorEq, evP_D, evD_guard, evD_cons, evD_zero, evD_nil]
  have hok2 := hok
  obtain ⟨⟨a0, a1⟩, ⟨f0, f1⟩, ⟨t0, t1⟩, hft⟩ := hok2
  have hm := many_pos f0 hft t1
  refine evFn (l := [(48, elookF), (15, lastF), (49, byF)]) (nv := (nvL [(9, (3, 1))])) (fz := fz0) (dr := dr11) (dd := dd11) (lam := []) ⟨elook_snd hJ, last_snd, by_snd hJ, trivial⟩ hJ trivial Tryd.func11 rfl rfl (Nat.le_of_ble_eq_true rfl) (Nat.le_of_ble_eq_true rfl) drOk11 ?_
  dsimp only [Tryd.f11, dr11, dd11, Option.getD_some]
  refine ev_start ?_
  simp (disch := omega) only [elookF_eq, hok, go_sem, Int.reduceEq, Int.reduceLT, Int.reduceLE, Int.reduceNeg, Nat.reduceAdd, Nat.reduceLT, Nat.reduceEqDiff, Nat.reduceMul, Nat.reduceLeDiff, reduceIte, Nat.reduceBEq, reduceCtorEq, evP_D, evD_guard, evD_cons, evD_zero, evD_nil]
  refine evQ_loop [0, 1, 2, 9, 10, 11] [72] (fun σ => ∃ (i : Nat), (i ≤ 40 ∧ (i : Int) ≤ many f t) ∧ σ = ⟨[(0, .int .i64 a), (1, .int .i64 f), (2, .int .i64 t), (9, .vec 72), (10, .int .i64 (F a f t i)), (11, .int .i64 (dayI f i))], [(72, .vec 3 1 ((steps (F a f t) i).map (V.int .i64)))]⟩)
    (fun σ => match Ev.look 72 σ.hp with | some (.vec _ _ es) => 41 - es.length | _ => 0) ?_ ?_
  · simp only [go_sem, Int.reduceEq, Int.reduceLT, Int.reduceLE, Int.reduceNeg, Nat.reduceAdd, Nat.reduceLT, Nat.reduceEqDiff, Nat.reduceMul, Nat.reduceLeDiff, reduceIte, Nat.reduceBEq, reduceCtorEq, evP_D, evD_guard, evD_cons, evD_zero, evD_nil]
    exact ⟨0, ⟨by omega, by omega⟩, rfl⟩
  · rintro σ ⟨i, ⟨hi, hi2⟩, rfl⟩
    have hle := day_le (i := i) f0 hft t1
    by_cases hlt : (i : Int) < many f t
    · have hin : Cal.mon f + i ≤ Cal.mon t := by unfold many at hlt; omega
      obtain ⟨⟨d0, d1⟩, hlast⟩ := day_step f0 hft t1 hin
      have hdt : dayI f i ≤ t := hle.2 hin
      have lb := last_bd d0 (show dayI f i ≤ 292193 by omega)
      have r1 := lastF_eq (n := dayI f i) (by omega)
      have r2 := byF_eq (day := Cal.last (dayI f i)) hok (by omega)
      have hF : F a f t ((i + 1 : Nat) : Int) = ear a f t (Cal.last (dayI f i)) := by
        unfold F; rw [if_neg (by omega), hlast]
      have hnext : dayI f (i + 1) = Cal.last (dayI f i) + 1 := by
        rw [hlast]; unfold dayI; rw [if_neg (by omega)]; omega
      have bF := F_bd (k := ((i + 1 : Nat) : Int)) a0 a1 f0 t1 hft
      have bF0 := F_bd (k := (i : Int)) a0 a1 f0 t1 hft
      rw [← hF] at r2
      by_cases h40 : i = 40
      · have e : monthsV a f t = (.tup [.zero, .int .i64 2], []) := by unfold monthsV; rw [if_pos hok, if_neg (by omega)]
        have h40' : (i : Int) = 40 := by omega
        generalize Cal.last (dayI f i) = E at *
        simp (disch := omega) only [e, hdt, r1, h40', List.length_map, steps_len, go_sem, Int.reduceEq, Int.reduceLT, Int.reduceLE, Int.reduceNeg, Nat.reduceAdd, Nat.reduceLT, Nat.reduceEqDiff, Nat.reduceMul, Nat.reduceLeDiff, reduceIte, Nat.reduceBEq, reduceCtorEq, evP_D, evD_guard, evD_cons, evD_zero, evD_nil]
      · have h40' : ¬ (i : Int) = 40 := by omega
        have e1 : ((i + 1 : Nat) : Int) = (i : Int) + 1 := by omega
        generalize Cal.last (dayI f i) = E at *
        simp (disch := omega) only [hdt, r1, r2, h40', List.length_map, steps_len, go_sem, Int.reduceEq, Int.reduceLT, Int.reduceLE, Int.reduceNeg, Nat.reduceAdd, Nat.reduceLT, Nat.reduceEqDiff, Nat.reduceMul, Nat.reduceLeDiff, reduceIte, Nat.reduceBEq, reduceCtorEq, evP_D, evD_guard, evD_cons, evD_zero, evD_nil]
        exact ⟨⟨i + 1, ⟨by omega, by omega⟩, by rw [steps_succ, List.map_append, hnext, e1]; rfl⟩, by simp [steps_len]; omega⟩
    · have hi3 : (i : Int) = many f t := by omega
      have hdt : ¬ dayI f i ≤ t := by rw [hle]; unfold many at hi3; omega
      have e : monthsV a f t = (.tup [.vec 0, .int .i64 0], [.vec 3 1 ((steps (F a f t) i).map (V.int .i64))]) := by
        unfold monthsV; rw [if_pos hok, if_pos (by omega), show (many f t).toNat = i by omega]
      simp (disch := omega) only [e, hdt, go_sem, Int.reduceEq, Int.reduceLT, Int.reduceLE, Int.reduceNeg, Nat.reduceAdd, Nat.reduceLT, Nat.reduceEqDiff, Nat.reduceMul, Nat.reduceLeDiff, reduceIte, Nat.reduceBEq, reduceCtorEq, evP_D, evD_guard, evD_cons, evD_zero, evD_nil]
def ebyV (a f t day : Int) : V := if okE a f t then (if 0 ≤ day ∧ day ≤ 292193 then .tup [.int .i64 (ear a f t day), .int .i64 0] else .tup [.int .i64 0, .int .i64 1]) else .tup [.int .i64 0, .int .i64 1]
theorem eby_sound {J : World → Prop} (hJ : Stable J) (a f t day : Int) : SoundAt Tryd.prog J 17 [.int .i64 a, .int .i64 f, .int .i64 t, .int .i64 day] (ebyV a f t day) [] := by
  refine evFn (l := [(48, elookF), (60, dayF), (49, byF)]) (nv := nv0) (fz := fz0) (dr := dr17) (dd := dd17) (lam := []) ⟨elook_snd hJ, is_snd hJ, by_snd hJ, trivial⟩ hJ trivial Tryd.func17 rfl rfl (Nat.le_of_ble_eq_true rfl) (Nat.le_of_ble_eq_true rfl) drOk17 ?_
  dsimp only [Tryd.f17, dr17, dd17, Option.getD_some]
  refine ev_start ?_
  by_cases hok : okE a f t
  · by_cases hd : 0 ≤ day ∧ day ≤ 292193
    · have r := byF_eq hok hd
      simp (disch := omega) only [ebyV, elookF_eq, dayF_eq, hok, hd, and_self, r, go_sem, Int.reduceEq, Int.reduceLT, Int.reduceLE, Int.reduceNeg, Nat.reduceAdd, Nat.reduceLT, Nat.reduceEqDiff, Nat.reduceMul, Nat.reduceLeDiff, reduceIte, Nat.reduceBEq, reduceCtorEq, evP_D, evD_guard, evD_cons, evD_zero, evD_nil]
    · simp (disch := omega) only [ebyV, elookF_eq, dayF_eq, hok, hd, go_sem, Int.reduceEq, Int.reduceLT, Int.reduceLE, Int.reduceNeg, Nat.reduceAdd, Nat.reduceLT, Nat.reduceEqDiff, Nat.reduceMul, Nat.reduceLeDiff, reduceIte, Nat.reduceBEq, reduceCtorEq, evP_D, evD_guard, evD_cons, evD_zero, evD_nil]
  · simp (disch := omega) only [ebyV, elookF_eq, hok, go_sem, Int.reduceEq, Int.reduceLT, Int.reduceLE, Int.reduceNeg, Nat.reduceAdd, Nat.reduceLT, Nat.reduceEqDiff, Nat.reduceMul, Nat.reduceLeDiff, reduceIte, Nat.reduceBEq, reduceCtorEq, evP_D, evD_guard, evD_cons, evD_zero, evD_nil]
end Go.Proofs.YtdjdipehfnnhpaaDoor
