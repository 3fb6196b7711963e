/-
  Plans, run by the machine: what is due, as the document says it.
-/
import Derived.Test.YtdmkmbaaemhhhaaDoorJobL
import Derived.Test.YtdmkmbaaemhhhaaDoorDecE
namespace Go.Proofs.YtdmkmbaaemhhhaaDoor
open Go Go.Ev Go.RowKit Go.Job Go.Acc
set_option maxHeartbeats 4000000
set_option linter.unusedSimpArgs false
set_option linter.unusedVariables false
attribute [local go_sem] mutV getB mvB bkB V.mv V.mvL V.bk V.bkL Blk.mv Blk.bk posN nmN backN noDup app_writes setHL_nil setHL_cons postM_ret postM_normal resM hasB_nil hasB_cons St.mut names_nil names_cons sortV cellOf mkX_M mkX_S mkX_ln lnL_at ms0_mt ms0_st V.lone V.loneL List.zip_cons_cons List.zip_nil_left Option.isNone_none bornV subE partR unB bytesW boundsV ownP sliceW copyV clearV lenM takeV tk1 mapsV mkMapV hintOk lookV updV mapKE keyOk V.key app_lend callW_fn lendV postL_ret postL_normal postT_ret postT_normal takeR St.lent mkX_L bin_eql_vz bin_eql_zv bin_eql_rz bin_eql_zr bin_eql_zz bin_neq_vz bin_neq_zv bin_neq_rz bin_neq_zr bin_neq_zz eqH nilEq nonE plainI gOf_bool gOf_skip g_some g_none Int.ofNat_zero Int.cast_ofNat_Int Bool.false_and Bool.and_false sliceV noBox elemsZ V.scrub V.scrubL Blk.scrub appendV isSlice maxLen_eq leT List.contains_nil List.contains_cons nvL_at fzL_at fillV V.plain V.plainL Blk.plain List.size_toArray mapO_nil mapO_cons Option.isNone_some beqT beqF oI_not mkX_e phi_nil phi_cons bin_eql_bool bin_neq_bool bin_eql_agg bin_neq_agg eqV eqFs eqK_int eqK_bool' eqK_str mkX_T mkX_Φ mkX_n mkX_f mkX_d mkX_r nv0_at fz0_at evQ_dr evP_W evW_nil evW_cons evW_guard okW_eq tame_none tame_new tame_write wb_none wb_new wb_write okU_some offW_none offW_some touchOf V.noRef V.noRefL Option.isSome_some Option.isSome_none mild_none mild_new Option.getD_some Option.getD_none evQ_seq evQ_region evQ_block evQ_cond evQ_ret evQ_skip evQ_exit evO_cons evO_nil evO_guard freezeL_nil oS_some oS_none oS_ite oS_ite' oB_bool oI_true oI_false oE_normal oE_exit oE_ret bQ_normal bQ_ret bQ_exit lQ_normal lQ_ret lQ_exit List.zipIdx_cons List.zipIdx_nil List.map_cons List.map_nil evalOp opd_const opd_tmp opd_func ofC_int ofC_bool ofC_str ofC_nil app_none app_new app_write app_change putE_some putE_none setA_cons setA_nil setH_cons setH_nil mapA_cons mapA_nil look_cons look_nil e_mk h_mk drop_nil drop_mk keep_mk dstOk_some dstOk_none guardT_eq true_and and_true Bool.not_false Bool.not_true selB_true selB_false mem_nil mem_cons kpL_nil kpL_cons drL_nil drL_cons closed_mk V.refsIn V.refsInL Blk.refsIn List.all_cons List.all_nil lenV bin_add bin_sub bin_mul bin_quo bin_rem bin_eql bin_neq bin_lss bin_leq bin_gtr bin_geq un_neg un_not post_ret post_normal St.init Bool.false_eq_true List.length_map Bool.or_false Bool.or_true Bool.false_or Bool.true_or beq_self_eq_true Option.map_some Option.map_none Option.bind_some List.getElem?_cons_zero List.getElem?_cons_succ scalar stor isAggV V.cells List.cons_append List.nil_append if_true if_false wrap_of callV V.dataL V.data Bool.and_true Bool.true_and fresh names V.ren V.renL retV resV packL packV packC getBlks wrapR subV putV decide_true decide_false TK.agg List.length_cons List.length_nil List.take_succ_cons List.take_zero List.drop_succ_cons List.drop_zero List.take_nil List.drop_nil Nat.zero_add Nat.add_zero List.append_nil List.getElem?_nil elemsV ro ro0 ro1 roC ty2 ty3 ty4 ty5 ty6 ty7 ty8 ty9 ty10 ty11 ty12 ty13 ty14 ty18 ty19 ty21 ty22 ty23 ty24 ty28 ty29 ty32 ty33 ty34 ty38 ty39 ty40 ty56 ty60 ty61 ty62 ty75 ty78 ty79 ty85 ty93 ty94 ty97 ty118 ty127 ty141 ty142 ty143 ty144 ty148 ty149 ty154 ty155 ty158 ty159 ty160 ty161 eqs29 eqs61 eqs79 eqs94
def decS : List V → Option (V × List Ev.Blk)
  | [.int .i64 n] => if 0 ≤ n ∧ n < 10 then some (.str (digB n.toNat), []) else none
  | _ => none
theorem decS_eq {n : Nat} (h : n < 10) : decS [.int .i64 (n : Int)] = some (.str (digB n), []) := by
  have e : decS [.int .i64 (n : Int)] = if 0 ≤ (n : Int) ∧ (n : Int) < 10 then some (.str (digB (n : Int).toNat), []) else none := rfl
  rw [e, if_pos (by omega), Int.toNat_natCast]
theorem keyP_cat (p : Pl) {k : Nat} (h : k < 100) : p.key ++ ⟨#[45]⟩ ++ digB (k / 10) ++ digB (k % 10) = keyP p k := by
  unfold keyP
  rw [← dig2_eq h, ByteArray.append_assoc (a := p.key ++ ⟨#[45]⟩)]
theorem decS_snd {J : World → Prop} (hJ : Stable J) : Snd Tryd.prog J 34 decS := by
  intro args r bs h
  unfold decS at h
  split at h
  · split at h
    · rename_i n hc
      obtain ⟨rfl, rfl⟩ := some_pair h
      obtain ⟨m, rfl⟩ : ∃ m : Nat, n = m := ⟨n.toNat, by omega⟩
      rw [Int.toNat_natCast]
      exact dec_small hJ m (by omega)
    · cases h
  · cases h
theorem rpartsx {J : World → Prop} (hJ : Stable J) : ∃ F : List V → Option (V × List Ev.Blk), (∀ p : Pl, PlOk keyOk' codeOk p → F [plV p] = some (.vec 0, [.vec 3 1 ((partL p).map (V.int .i64))])) ∧ Snd Tryd.prog J 33 F := by
  obtain ⟨F, h1, h2⟩ := famj (P := Tryd.prog) (J := J) (f := 33) (fun q : { p : Pl // PlOk keyOk' codeOk p } => [plV q.1]) (fun q => (.vec 0, [.vec 3 1 ((partL q.1).map (V.int .i64))])) (fun i j h => by
    simp only [List.cons.injEq, and_true] at h
    rw [plV_inj1 h]) fun q => rparts_sound hJ q.1 q.2
  exact ⟨F, fun p h => h1 ⟨p, h⟩, h2⟩
set_option maxRecDepth 100000 in
set_option maxHeartbeats 8000000 in
theorem rdue_sound {J : World → Prop} (hJ : Stable J) (l : List Pl) (day : Int) (hok : plChk keyOk' codeOk l = 0) : SoundAt Tryd.prog J 10 [.row 7 (l.map plV), .int .i64 day] (.vec 0) [.vec 34 3 ((dueL day l).map enJ)] := by
  obtain ⟨hl12, hall⟩ := chk_one keyOk' codeOk hok
  have hPl : ∀ p ∈ l, PlOk keyOk' codeOk p := fun p hp => one_ok keyOk' codeOk (hall p hp)
  obtain ⟨PF, hPF, sPF⟩ := rpartsx hJ
  refine evFn (l := [(33, PF), (29, rdaF), (34, decS)]) (nv := (nvL [(5, (34, 3)), (60, (34, 3))])) (fz := fz0) (dr := dr10) (dd := dd10) (lam := []) (ms := ms0) ⟨sPF, rda_snd, decS_snd hJ, trivial⟩ hJ trivial ms0_ok Tryd.func10 rfl rfl (Nat.le_of_ble_eq_true rfl) (Nat.le_of_ble_eq_true rfl) drOk10 ?_
  dsimp only [Tryd.f10, dr10, dd10, Option.getD_some]
  refine ev_start ?_
  simp (disch := omega) only [List.length_map, go_sem, Int.reduceEq, Int.reduceLT, Int.reduceLE, Int.reduceNeg, Nat.reduceAdd, Nat.reduceLT, Nat.reduceEqDiff, Nat.reduceMul, Nat.reduceLeDiff, reduceIte, Nat.reduceBEq, reduceCtorEq, evP_D, evD_guard, evD_cons, evD_zero, evD_nil]
  refine evQ_loop [1, 5, 12, 13, 14] [40] (fun σ => ∃ (i : Nat), i ≤ l.length ∧ σ = ⟨[(1, .int .i64 day), (5, .vec 40), (12, .row 7 (l.map plV)), (13, .int .i64 l.length), (14, .int .i64 i)], [(40, .vec 34 3 ((dueL day (l.take i)).map enJ))]⟩)
    (fun σ => l.length - (match Ev.look 14 σ.env with | some (.int _ n) => n.toNat | _ => 0)) ?_ ?_
  · simp only [go_sem, Int.reduceEq, Int.reduceLT, Int.reduceLE, Int.reduceNeg, Nat.reduceAdd, Nat.reduceLT, Nat.reduceEqDiff, Nat.reduceMul, Nat.reduceLeDiff, reduceIte, Nat.reduceBEq, reduceCtorEq, evP_D, evD_guard, evD_cons, evD_zero, evD_nil]
    exact ⟨0, Nat.zero_le _, rfl⟩
  · rintro σ ⟨i, hi, rfl⟩
    by_cases hlt : i < l.length
    case neg =>
      have hi' : i = l.length := by omega
      subst hi'
      have hlt' : ¬ ((l.length : Int) < l.length) := by omega
      simp (disch := (first | omega | assumption)) only [hlt', List.take_length, go_sem, Int.reduceEq, Int.reduceLT, Int.reduceLE, Int.reduceNeg, Nat.reduceAdd, Nat.reduceLT, Nat.reduceEqDiff, Nat.reduceMul, Nat.reduceLeDiff, reduceIte, Nat.reduceBEq, reduceCtorEq, evP_D, evD_guard, evD_cons, evD_zero, evD_nil]
    have hlt' : (i : Int) < l.length := by omega
    obtain ⟨p, hp⟩ : ∃ p, l[i]? = some p := ⟨_, List.getElem?_eq_getElem hlt⟩
    have hg := plV_get hp
    have ok := hPl p (List.mem_of_getElem? hp)
    have hP1 := hPF p ok
    unfold plV at hP1
    have hsu := dueL_succ (day := day) hp
    have hnum := ok.num
    have hat := ok.at_
    have hks := ok.key.2.1
    have hlen := partL_len hnum
    have hbd := partL_bd ok
    have hol : (dueL day (l.take (i + 1))).length ≤ 480 := by
      have h1 := dueL_len (day := day) (l := l.take (i + 1)) fun q hq => (hPl q (List.mem_of_mem_take hq)).num
      have h2 : (l.take (i + 1)).length ≤ 12 := by rw [List.length_take]; omega
      have h3 : (l.take (i + 1)).length * 40 ≤ 12 * 40 := Nat.mul_le_mul_right _ h2
      omega
    have hms : l.length - ((i : Int) + 1).toNat < l.length - (i : Int).toNat := by
      have e3 : ((i : Int) + 1).toNat = i + 1 := by omega
      rw [e3, Int.toNat_natCast]; exact Nat.sub_lt_sub_left hlt (Nat.lt_succ_self i)
    obtain ⟨L, hL⟩ : ∃ L, L = partL p := ⟨_, rfl⟩
    rw [← hL] at hlen hbd hP1
    simp (disch := (first | omega | assumption)) only [hlt', idx_nat, List.length_map, hg, hP1, go_sem, Int.reduceEq, Int.reduceLT, Int.reduceLE, Int.reduceNeg, Nat.reduceAdd, Nat.reduceLT, Nat.reduceEqDiff, Nat.reduceMul, Nat.reduceLeDiff, reduceIte, Nat.reduceBEq, reduceCtorEq, evP_D, evD_guard, evD_cons, evD_zero, evD_nil]
    refine evQ_loop [1, 5, 7, 12, 13, 14, 19, 20, 21] [40, 56, 152] (fun σ => ∃ (j : Nat) (O : List Job.En), (j ≤ L.length ∧ O ++ dueFrom day p j (L.drop j) = dueL day (l.take (i + 1))) ∧ σ = ⟨[(1, .int .i64 day), (5, .vec 40), (7, .ptr 56 0), (12, .row 7 (l.map plV)), (13, .int .i64 l.length), (14, .int .i64 i), (19, .vec 152), (20, .int .i64 L.length), (21, .int .i64 j)], [(40, .vec 34 3 (O.map enJ)), (56, .box (.agg [.str p.key, .int .i64 p.kind, .int .i64 p.at_, .int .i64 p.amt, .int .i64 p.num, .str p.deb, .str p.cre])), (152, .vec 3 1 (L.map (V.int .i64)))]⟩)
      (fun σ => L.length - (match Ev.look 21 σ.env with | some (.int _ n) => n.toNat | _ => 0)) ?_ ?_
    · simp only [go_sem, Int.reduceEq, Int.reduceLT, Int.reduceLE, Int.reduceNeg, Nat.reduceAdd, Nat.reduceLT, Nat.reduceEqDiff, Nat.reduceMul, Nat.reduceLeDiff, reduceIte, Nat.reduceBEq, reduceCtorEq, evP_D, evD_guard, evD_cons, evD_zero, evD_nil]
      exact ⟨0, dueL day (l.take i), ⟨Nat.zero_le _, by rw [hsu, hL]; rfl⟩, rfl⟩
    · rintro σ ⟨j, O, ⟨hj, hO⟩, rfl⟩
      by_cases hjt : j < L.length
      case neg =>
        have hj' : j = L.length := by omega
        subst hj'
        have hjt' : ¬ ((L.length : Int) < L.length) := by omega
        have e : O = dueL day (l.take (i + 1)) := by rw [← hO, List.drop_length]; simp [dueFrom]
        simp (disch := (first | omega | assumption)) only [hjt', go_sem, Int.reduceEq, Int.reduceLT, Int.reduceLE, Int.reduceNeg, Nat.reduceAdd, Nat.reduceLT, Nat.reduceEqDiff, Nat.reduceMul, Nat.reduceLeDiff, reduceIte, Nat.reduceBEq, reduceCtorEq, evP_D, evD_guard, evD_cons, evD_zero, evD_nil]
        exact ⟨⟨i + 1, hlt, by rw [e]; rfl⟩, hms⟩
      have hjt' : (j : Int) < L.length := by omega
      obtain ⟨n, hn⟩ : ∃ n, L[j]? = some n := ⟨_, List.getElem?_eq_getElem hjt⟩
      have hgn := get_map (V.int .i64) L j n hn
      have hnb := hbd n (List.mem_of_getElem? hn)
      have hdr := dueFrom_drop (day := day) (p := p) hn
      have hA := rdaF_eq (n := p.at_) (k := (j : Int)) (by omega)
      have hmj : L.length - ((j : Int) + 1).toNat < L.length - (j : Int).toNat := by
        have e3 : ((j : Int) + 1).toNat = j + 1 := by omega
        rw [e3, Int.toNat_natCast]; exact Nat.sub_lt_sub_left hjt (Nat.lt_succ_self j)
      have hOl : O.length ≤ 480 := by
        have := congrArg List.length hO
        rw [List.length_append] at this
        omega
      by_cases hgt : Cal.add p.at_ j ≤ day
      · by_cases hn0 : 0 < n
        · rw [if_pos (by omega)] at hdr
          have hj40 : j < 100 := by omega
          have t1 : (j : Int).tdiv 10 = ((j / 10 : Nat) : Int) := by rw [Int.tdiv_eq_ediv_of_nonneg (by omega)]; omega
          have t2 : (j : Int).tmod 10 = ((j % 10 : Nat) : Int) := by rw [Int.tmod_eq_emod_of_nonneg (by omega)]; omega
          have b1 : j / 10 < 10 := by omega
          have b2 : j % 10 < 10 := by omega
          have d1 := decS_eq b1
          have d2 := decS_eq b2
          have s1 := size_digB b1
          have s2 := size_digB b2
          have z1 := size_cat p.key ⟨#[45]⟩
          have z2 := size_cat (p.key ++ ⟨#[45]⟩) (digB (j / 10))
          have hkc := keyP_cat p hj40
          rw [size_dash] at z1
          have q1 := bin_add_str (x := p.key) (y := ⟨#[45]⟩) (by rw [size_dash]; omega)
          have q2 := bin_add_str (x := p.key ++ ⟨#[45]⟩) (y := digB (j / 10)) (by omega)
          have q3 := bin_add_str (x := p.key ++ ⟨#[45]⟩ ++ digB (j / 10)) (y := digB (j % 10)) (by omega)
          rw [hkc] at q3
          simp (disch := (first | omega | assumption)) only [hjt', idx_nat, List.length_map, hgn, hA, hgt, hn0, t1, t2, d1, d2, q1, q2, q3, Int.zero_sub, go_sem, Int.reduceEq, Int.reduceLT, Int.reduceLE, Int.reduceNeg, Nat.reduceAdd, Nat.reduceLT, Nat.reduceEqDiff, Nat.reduceMul, Nat.reduceLeDiff, reduceIte, Nat.reduceBEq, reduceCtorEq, evPd, evDg, evDc, evDz, evDn]
          exact ⟨⟨j + 1, O ++ [enP p j n], ⟨hjt, by rw [List.append_assoc, ← hdr]; exact hO⟩, by rw [List.map_append, List.map_cons, enJ_P]; rfl⟩, hmj⟩
        · rw [if_neg (by omega), List.nil_append] at hdr
          simp (disch := (first | omega | assumption)) only [hjt', idx_nat, List.length_map, hgn, hA, hgt, hn0, go_sem, Int.reduceEq, Int.reduceLT, Int.reduceLE, Int.reduceNeg, Nat.reduceAdd, Nat.reduceLT, Nat.reduceEqDiff, Nat.reduceMul, Nat.reduceLeDiff, reduceIte, Nat.reduceBEq, reduceCtorEq, evP_D, evD_guard, evD_cons, evD_zero, evD_nil]
          exact ⟨⟨j + 1, O, ⟨hjt, by rw [← hdr]; exact hO⟩, rfl⟩, hmj⟩
      · rw [if_neg (by omega), List.nil_append] at hdr
        simp (disch := (first | omega | assumption)) only [hjt', idx_nat, List.length_map, hgn, hA, hgt, go_sem, Int.reduceEq, Int.reduceLT, Int.reduceLE, Int.reduceNeg, Nat.reduceAdd, Nat.reduceLT, Nat.reduceEqDiff, Nat.reduceMul, Nat.reduceLeDiff, reduceIte, Nat.reduceBEq, reduceCtorEq, evP_D, evD_guard, evD_cons, evD_zero, evD_nil]
        exact ⟨⟨j + 1, O, ⟨hjt, by rw [← hdr]; exact hO⟩, rfl⟩, hmj⟩
theorem enJ_get {E : List Job.En} {k : Nat} {c : ByteArray} {d : Int} {l : List (ByteArray × Int)} (h : E[k]? = some (c, d, l)) : (E.map enJ)[k]? = some (.agg [.str c, .int .i64 d, .row 2 (l.map acV)]) := by rw [List.getElem?_map, h]; rfl
theorem eqJ_sound {J : World → Prop} (hJ : Stable J) (E : List Job.En) : SoundAt Tryd.prog J 9 [.row 3 (E.map enJ), .row 3 (E.map enJ), .fn 11 []] (.bool true) [] := by
  refine SoundAt.row 0 rfl (callOk Tryd.func9 rfl rfl) fun hx => ?_
  simp only [maxLen, List.length_map] at hx
  refine evFn (l := [(11, sameF)]) (nv := nv0) (fz := fz0) (dr := dr9) (dd := dd9) (lam := []) (ms := ms0) ⟨same_snd hJ, trivial⟩ hJ trivial ms0_ok Tryd.func9 rfl rfl (Nat.le_of_ble_eq_true rfl) (Nat.le_of_ble_eq_true rfl) drOk9 ?_
  dsimp only [Tryd.f9, dr9, dd9, Option.getD_some]
  refine ev_start ?_
  simp (disch := omega) only [go_sem, Int.reduceEq, Int.reduceLT, Int.reduceLE, Int.reduceNeg, Nat.reduceAdd, Nat.reduceLT, Nat.reduceEqDiff, Nat.reduceMul, Nat.reduceLeDiff, reduceIte, Nat.reduceBEq, reduceCtorEq, evP_D, evD_guard, evD_cons, evD_zero, evD_nil]
  refine evQ_loop [1, 2, 15, 16, 17] [] (fun σ => ∃ k : Nat, k ≤ E.length ∧ σ = ⟨[(1, .row 3 (E.map enJ)), (2, .fn 11 []), (15, .row 3 (E.map enJ)), (16, .int .i64 E.length), (17, .int .i64 k)], []⟩) (fun σ => E.length - (match Ev.look 17 σ.env with | some (.int _ n) => n.toNat | _ => 0)) ?_ ?_
  · simp only [go_sem, Int.reduceEq, Int.reduceLT, Int.reduceLE, Int.reduceNeg, Nat.reduceAdd, Nat.reduceLT, Nat.reduceEqDiff, Nat.reduceMul, Nat.reduceLeDiff, reduceIte, Nat.reduceBEq, reduceCtorEq, evP_D, evD_guard, evD_cons, evD_zero, evD_nil]
    exact ⟨0, Nat.zero_le _, rfl⟩
  · rintro σ ⟨k, hk, rfl⟩
    by_cases hlt : k < E.length
    · have hlt' : (k : Int) < E.length := by omega
      obtain ⟨⟨c, d, l⟩, hcn⟩ : ∃ p, E[k]? = some p := ⟨_, List.getElem?_eq_getElem hlt⟩
      have g1 := enJ_get hcn
      have hS := sameF_eq (k := c) (d := d) (rowAc_row l) (rowAc_row l)
      simp (disch := (first | omega | assumption)) only [hlt', idx_nat, List.length_map, g1, hS, go_sem, Int.reduceEq, Int.reduceLT, Int.reduceLE, Int.reduceNeg, Nat.reduceAdd, Nat.reduceLT, Nat.reduceEqDiff, Nat.reduceMul, Nat.reduceLeDiff, reduceIte, Nat.reduceBEq, reduceCtorEq, evP_D, evD_guard, evD_cons, evD_zero, evD_nil]
      exact ⟨⟨k + 1, hlt, rfl⟩, by
        have e3 : ((k : Int) + 1).toNat = k + 1 := by omega
        rw [e3, Int.toNat_natCast]; exact Nat.sub_lt_sub_left hlt (Nat.lt_succ_self k)⟩
    · have hlt' : ¬ ((k : Int) < E.length) := by omega
      simp (disch := (first | omega | assumption)) only [hlt', go_sem, Int.reduceEq, Int.reduceLT, Int.reduceLE, Int.reduceNeg, Nat.reduceAdd, Nat.reduceLT, Nat.reduceEqDiff, Nat.reduceMul, Nat.reduceLeDiff, reduceIte, Nat.reduceBEq, reduceCtorEq, evP_D, evD_guard, evD_cons, evD_zero, evD_nil]
end Go.Proofs.YtdmkmbaaemhhhaaDoor
