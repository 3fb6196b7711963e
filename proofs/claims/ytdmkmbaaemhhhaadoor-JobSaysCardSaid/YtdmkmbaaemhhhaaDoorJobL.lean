/-
  Plans, run by the machine: what is due.
-/
import Derived.Test.YtdmkmbaaemhhhaaDoorJobG
import Derived.Test.YtdmkmbaaemhhhaaDoorJobK
namespace Go.Proofs.YtdmkmbaaemhhhaaDoor
open Go Go.Ev Go.RowKit Go.Job Go.Acc
set_option maxHeartbeats 4000000
set_option linter.unusedSimpArgs false
set_option linter.unusedVariables false
attribute [local go_sem] mutV getB mvB bkB V.mv V.mvL V.bk V.bkL Blk.mv Blk.bk posN nmN backN noDup app_writes setHL_nil setHL_cons postM_ret postM_normal resM hasB_nil hasB_cons St.mut names_nil names_cons sortV cellOf mkX_M mkX_S mkX_ln lnL_at ms0_mt ms0_st V.lone V.loneL List.zip_cons_cons List.zip_nil_left Option.isNone_none bornV subE partR unB bytesW boundsV ownP sliceW copyV clearV lenM takeV tk1 mapsV mkMapV hintOk lookV updV mapKE keyOk V.key app_lend callW_fn lendV postL_ret postL_normal postT_ret postT_normal takeR St.lent mkX_L bin_eql_vz bin_eql_zv bin_eql_rz bin_eql_zr bin_eql_zz bin_neq_vz bin_neq_zv bin_neq_rz bin_neq_zr bin_neq_zz eqH nilEq nonE plainI gOf_bool gOf_skip g_some g_none Int.ofNat_zero Int.cast_ofNat_Int Bool.false_and Bool.and_false sliceV noBox elemsZ V.scrub V.scrubL Blk.scrub appendV isSlice maxLen_eq leT List.contains_nil List.contains_cons nvL_at fzL_at fillV V.plain V.plainL Blk.plain List.size_toArray mapO_nil mapO_cons Option.isNone_some beqT beqF oI_not mkX_e phi_nil phi_cons bin_eql_bool bin_neq_bool bin_eql_agg bin_neq_agg eqV eqFs eqK_int eqK_bool' eqK_str mkX_T mkX_Φ mkX_n mkX_f mkX_d mkX_r nv0_at fz0_at evQ_dr evP_W evW_nil evW_cons evW_guard okW_eq tame_none tame_new tame_write wb_none wb_new wb_write okU_some offW_none offW_some touchOf V.noRef V.noRefL Option.isSome_some Option.isSome_none mild_none mild_new Option.getD_some Option.getD_none evQ_seq evQ_region evQ_block evQ_cond evQ_ret evQ_skip evQ_exit evO_cons evO_nil evO_guard freezeL_nil oS_some oS_none oS_ite oS_ite' oB_bool oI_true oI_false oE_normal oE_exit oE_ret bQ_normal bQ_ret bQ_exit lQ_normal lQ_ret lQ_exit List.zipIdx_cons List.zipIdx_nil List.map_cons List.map_nil evalOp opd_const opd_tmp opd_func ofC_int ofC_bool ofC_str ofC_nil app_none app_new app_write app_change putE_some putE_none setA_cons setA_nil setH_cons setH_nil mapA_cons mapA_nil look_cons look_nil e_mk h_mk drop_nil drop_mk keep_mk dstOk_some dstOk_none guardT_eq true_and and_true Bool.not_false Bool.not_true selB_true selB_false mem_nil mem_cons kpL_nil kpL_cons drL_nil drL_cons closed_mk V.refsIn V.refsInL Blk.refsIn List.all_cons List.all_nil lenV bin_add bin_sub bin_mul bin_quo bin_rem bin_eql bin_neq bin_lss bin_leq bin_gtr bin_geq un_neg un_not post_ret post_normal St.init Bool.false_eq_true List.length_map Bool.or_false Bool.or_true Bool.false_or Bool.true_or beq_self_eq_true Option.map_some Option.map_none Option.bind_some List.getElem?_cons_zero List.getElem?_cons_succ scalar stor isAggV V.cells List.cons_append List.nil_append if_true if_false wrap_of callV V.dataL V.data Bool.and_true Bool.true_and fresh names V.ren V.renL retV resV packL packV packC getBlks wrapR subV putV decide_true decide_false TK.agg List.length_cons List.length_nil List.take_succ_cons List.take_zero List.drop_succ_cons List.drop_zero List.take_nil List.drop_nil Nat.zero_add Nat.add_zero List.append_nil List.getElem?_nil elemsV ro ro0 ro1 roC ty2 ty3 ty4 ty5 ty6 ty7 ty8 ty9 ty10 ty11 ty12 ty13 ty14 ty18 ty19 ty21 ty22 ty23 ty24 ty28 ty29 ty32 ty33 ty34 ty38 ty39 ty40 ty56 ty60 ty61 ty62 ty75 ty78 ty79 ty85 ty93 ty94 ty97 ty118 ty127 ty141 ty142 ty143 ty144 ty148 ty149 ty154 ty155 ty158 ty159 ty160 ty161 eqs29 eqs61 eqs79 eqs94
def enJ (x : Job.En) : V := .agg [.str x.1, .int .i64 x.2.1, .row 2 (x.2.2.map acV)]
theorem enJ_P (p : Pl) (k : Nat) (n : Int) : enJ (enP p k n) = .agg [.str (keyP p k), .int .i64 (Cal.add p.at_ k), .row 2 [.agg [.str p.deb, .int .i64 n], .agg [.str p.cre, .int .i64 (-n)]]] := rfl
theorem partL_bd {p : Pl} (h : PlOk keyOk' codeOk p) (x : Int) (hx : x ∈ partL p) : 0 ≤ x ∧ x ≤ 1000000000000 := by
  obtain ⟨n, hn⟩ : ∃ n : Nat, p.num = n := ⟨p.num.toNat, by have := h.num; omega⟩
  have hb := h.num
  have ha := h.amt
  unfold partL at hx
  rw [hn, Int.toNat_natCast] at hx
  have := steps_bd (F := partF p) (n := n) (M := p.amt) (fun k hk => ?_) (fun k hk => ?_) x hx
  · omega
  · by_cases h1 : p.kind = 1
    · rw [partF_1 h1, hn]; exact lnD_mono ha.1 (by omega) (by omega) hk
    · rw [partF_0 h1, hn]; exact lnS_mono ha.1 (by omega) (by omega)
  · by_cases h1 : p.kind = 1
    · rw [partF_1 h1, hn]; exact lnD_bd ha.1 (by omega) (by omega) hk
    · rw [partF_0 h1, hn]; exact lnS_bd ha.1 (by omega) (by omega) (by omega)
theorem due_len {day : Int} {p : Pl} (h : 1 ≤ p.num ∧ p.num ≤ 40) : (dueP day p).length ≤ 40 := by
  have h1 := dueFrom_len day p 0 (partL p)
  have h2 := partL_len h
  unfold dueP
  omega
theorem dueL_len {day : Int} : ∀ {l : List Pl}, (∀ p ∈ l, 1 ≤ p.num ∧ p.num ≤ 40) → (dueL day l).length ≤ l.length * 40
  | [], _ => by simp [dueL]
  | p :: l, h => by
    have h1 := due_len (day := day) (h p (by simp))
    have h2 := dueL_len (day := day) (l := l) fun q hq => h q (by simp [hq])
    unfold dueL at h2 ⊢
    rw [List.flatMap_cons, List.length_append, List.length_cons]
    omega
theorem dueL_succ {day : Int} {l : List Pl} {i : Nat} {p : Pl} (h : l[i]? = some p) : dueL day (l.take (i + 1)) = dueL day (l.take i) ++ dueP day p := by
  obtain ⟨hk, rfl⟩ := List.getElem?_eq_some_iff.1 h
  unfold dueL
  rw [List.take_succ_eq_append_getElem hk, List.flatMap_append]
  simp
theorem jkeyx {J : World → Prop} : ∃ F : List V → Option (V × List Ev.Blk), (∀ (p : Pl) (k : Nat), p.key.size ≤ 9 → k < 100 → F [plV p, .int .i64 k] = some (.str (keyP p k), [])) ∧ Snd Tryd.prog J 24 F := by
  obtain ⟨F, h1, h2⟩ := famj (P := Tryd.prog) (J := J) (f := 24) (fun q : { q : Pl × Nat // q.1.key.size ≤ 9 ∧ q.2 < 100 } => [plV q.1.1, .int .i64 q.1.2]) (fun q => (.str (keyP q.1.1 q.1.2), [])) (fun i j h => by
    simp only [List.cons.injEq, V.int.injEq, true_and, and_true] at h
    rw [plV_inj1 h.1, Int.ofNat.inj h.2]) fun q => jkey_sound q.1.1 q.1.2 q.2.1 q.2.2
  exact ⟨F, fun p k ha hb => h1 ⟨(p, k), ha, hb⟩, h2⟩
theorem jpartsx {J : World → Prop} (hJ : Stable J) : ∃ F : List V → Option (V × List Ev.Blk), (∀ p : Pl, PlOk keyOk' codeOk p → F [plV p] = some (.vec 0, [.vec 3 1 ((partL p).map (V.int .i64))])) ∧ Snd Tryd.prog J 22 F := by
  obtain ⟨F, h1, h2⟩ := famj (P := Tryd.prog) (J := J) (f := 22) (fun q : { p : Pl // PlOk keyOk' codeOk p } => [plV q.1]) (fun q => (.vec 0, [.vec 3 1 ((partL q.1).map (V.int .i64))])) (fun i j h => by
    simp only [List.cons.injEq, and_true] at h
    rw [plV_inj1 h]) fun q => jparts_sound hJ q.1 q.2
  exact ⟨F, fun p h => h1 ⟨p, h⟩, h2⟩
theorem jdue_bad (l : List Pl) (day : Int) (e : Int) (h : (if plChk keyOk' codeOk l = 0 then (if 0 ≤ day ∧ day ≤ 292193 then 0 else 1) else plChk keyOk' codeOk l) = e) (he : e ≠ 0) : SoundAt Tryd.prog Tab 5 [.row 7 (l.map plV), .int .i64 day] (.tup [.zero, .int .i64 e]) [] := by
  have hJ := stableTab
  have hC := jcheck_sound l
  refine evFn (l := [(7, at1 _ (_, [])), (21, dayF)]) (nv := nv0) (fz := fz0) (dr := dr5) (dd := dd5) (lam := []) (ms := ms0) ⟨at1_snd hC, is_snd hJ, trivial⟩ hJ trivial ms0_ok Tryd.func5 rfl rfl (Nat.le_of_ble_eq_true rfl) (Nat.le_of_ble_eq_true rfl) drOk5 ?_
  dsimp only [Tryd.f5, dr5, dd5, Option.getD_some]
  refine ev_start ?_
  by_cases h0 : plChk keyOk' codeOk l = 0
  · rw [if_pos h0] at h
    by_cases hd : 0 ≤ day ∧ day ≤ 292193
    · rw [if_pos hd] at h
      exact absurd h.symm he
    · rw [if_neg hd] at h
      subst h
      have hd' : decide (0 ≤ day ∧ day ≤ 292193) = false := decide_eq_false hd
      simp (disch := omega) only [at1_eq, h0, dayF_eq, hd', go_sem, Int.reduceEq, Int.reduceLT, Int.reduceLE, Int.reduceNeg, Nat.reduceAdd, Nat.reduceLT, Nat.reduceEqDiff, Nat.reduceMul, Nat.reduceLeDiff, reduceIte, Nat.reduceBEq, reduceCtorEq, evP_D, evD_guard, evD_cons, evD_zero, evD_nil]
  · rw [if_neg h0] at h
    rw [h] at hC ⊢
    simp (disch := omega) only [at1_eq, he, go_sem, Int.reduceEq, Int.reduceLT, Int.reduceLE, Int.reduceNeg, Nat.reduceAdd, Nat.reduceLT, Nat.reduceEqDiff, Nat.reduceMul, Nat.reduceLeDiff, reduceIte, Nat.reduceBEq, reduceCtorEq, evP_D, evD_guard, evD_cons, evD_zero, evD_nil]
set_option maxHeartbeats 8000000 in
theorem jdue_sound (l : List Pl) (day : Int) (hok : plChk keyOk' codeOk l = 0) (hd : 0 ≤ day ∧ day ≤ 292193) : SoundAt Tryd.prog Tab 5 [.row 7 (l.map plV), .int .i64 day] (.tup [.vec 0, .int .i64 0]) [.vec 34 3 ((dueL day l).map enJ)] := by
  have hJ := stableTab
  have hC := jcheck_sound l
  rw [hok] at hC
  obtain ⟨hl12, hall⟩ := chk_one keyOk' codeOk hok
  have hPl : ∀ p ∈ l, PlOk keyOk' codeOk p := fun p hp => one_ok keyOk' codeOk (hall p hp)
  obtain ⟨PF, hPF, sPF⟩ := jpartsx hJ
  obtain ⟨KF, hKF, sKF⟩ := jkeyx (J := Tab)
  refine evFn (l := [(7, at1 _ (_, [])), (21, dayF), (22, PF), (23, addF), (24, KF)]) (nv := (nvL [(7, (34, 3)), (62, (34, 3))])) (fz := fz0) (dr := dr5) (dd := dd5) (lam := []) (ms := ms0) ⟨at1_snd hC, is_snd hJ, sPF, add_snd, sKF, trivial⟩ hJ trivial ms0_ok Tryd.func5 rfl rfl (Nat.le_of_ble_eq_true rfl) (Nat.le_of_ble_eq_true rfl) drOk5 ?_
  dsimp only [Tryd.f5, dr5, dd5, Option.getD_some]
  refine ev_start ?_
  simp (disch := omega) only [at1_eq, dayF_eq, hd, and_self, List.length_map, go_sem, Int.reduceEq, Int.reduceLT, Int.reduceLE, Int.reduceNeg, Nat.reduceAdd, Nat.reduceLT, Nat.reduceEqDiff, Nat.reduceMul, Nat.reduceLeDiff, reduceIte, Nat.reduceBEq, reduceCtorEq, evP_D, evD_guard, evD_cons, evD_zero, evD_nil]
  refine evQ_loop [1, 7, 22, 23, 24] [56] (fun σ => ∃ (i : Nat), i ≤ l.length ∧ σ = ⟨[(1, .int .i64 day), (7, .vec 56), (22, .row 7 (l.map plV)), (23, .int .i64 l.length), (24, .int .i64 i)], [(56, .vec 34 3 ((dueL day (l.take i)).map enJ))]⟩)
    (fun σ => l.length - (match Ev.look 24 σ.env with | some (.int _ n) => n.toNat | _ => 0)) ?_ ?_
  · simp only [go_sem, Int.reduceEq, Int.reduceLT, Int.reduceLE, Int.reduceNeg, Nat.reduceAdd, Nat.reduceLT, Nat.reduceEqDiff, Nat.reduceMul, Nat.reduceLeDiff, reduceIte, Nat.reduceBEq, reduceCtorEq, evP_D, evD_guard, evD_cons, evD_zero, evD_nil]
    exact ⟨0, Nat.zero_le _, rfl⟩
  · rintro σ ⟨i, hi, rfl⟩
    by_cases hlt : i < l.length
    case neg =>
      have hi' : i = l.length := by omega
      subst hi'
      have hlt' : ¬ ((l.length : Int) < l.length) := by omega
      simp (disch := (first | omega | assumption)) only [hlt', List.take_length, go_sem, Int.reduceEq, Int.reduceLT, Int.reduceLE, Int.reduceNeg, Nat.reduceAdd, Nat.reduceLT, Nat.reduceEqDiff, Nat.reduceMul, Nat.reduceLeDiff, reduceIte, Nat.reduceBEq, reduceCtorEq, evP_D, evD_guard, evD_cons, evD_zero, evD_nil]
    have hlt' : (i : Int) < l.length := by omega
    obtain ⟨p, hp⟩ : ∃ p, l[i]? = some p := ⟨_, List.getElem?_eq_getElem hlt⟩
    have hg := plV_get hp
    have ok := hPl p (List.mem_of_getElem? hp)
    have hP1 := hPF p ok
    unfold plV at hP1
    have hsu := dueL_succ (day := day) hp
    have hnum := ok.num
    have hat := ok.at_
    have hlen := partL_len hnum
    have hbd := partL_bd ok
    have hol : (dueL day (l.take (i + 1))).length ≤ 480 := by
      have h1 := dueL_len (day := day) (l := l.take (i + 1)) fun q hq => (hPl q (List.mem_of_mem_take hq)).num
      have h2 : (l.take (i + 1)).length ≤ 12 := by rw [List.length_take]; omega
      have h3 : (l.take (i + 1)).length * 40 ≤ 12 * 40 := Nat.mul_le_mul_right _ h2
      omega
    have hms : l.length - ((i : Int) + 1).toNat < l.length - (i : Int).toNat := by
      have e3 : ((i : Int) + 1).toNat = i + 1 := by omega
      rw [e3, Int.toNat_natCast]; exact Nat.sub_lt_sub_left hlt (Nat.lt_succ_self i)
    have hKp := fun (j : Nat) (hj : j < 100) => hKF p j ok.key.2.1 hj
    unfold plV at hKp
    obtain ⟨L, hL⟩ : ∃ L, L = partL p := ⟨_, rfl⟩
    rw [← hL] at hlen hbd hP1
    simp (disch := (first | omega | assumption)) only [hlt', idx_nat, List.length_map, hg, hP1, go_sem, Int.reduceEq, Int.reduceLT, Int.reduceLE, Int.reduceNeg, Nat.reduceAdd, Nat.reduceLT, Nat.reduceEqDiff, Nat.reduceMul, Nat.reduceLeDiff, reduceIte, Nat.reduceBEq, reduceCtorEq, evP_D, evD_guard, evD_cons, evD_zero, evD_nil]
    refine evQ_loop [1, 7, 9, 22, 23, 24, 29, 30, 31] [56, 72, 232] (fun σ => ∃ (j : Nat) (O : List Job.En), (j ≤ L.length ∧ O ++ dueFrom day p j (L.drop j) = dueL day (l.take (i + 1))) ∧ σ = ⟨[(1, .int .i64 day), (7, .vec 56), (9, .ptr 72 0), (22, .row 7 (l.map plV)), (23, .int .i64 l.length), (24, .int .i64 i), (29, .vec 232), (30, .int .i64 L.length), (31, .int .i64 j)], [(56, .vec 34 3 (O.map enJ)), (72, .box (.agg [.str p.key, .int .i64 p.kind, .int .i64 p.at_, .int .i64 p.amt, .int .i64 p.num, .str p.deb, .str p.cre])), (232, .vec 3 1 (L.map (V.int .i64)))]⟩)
      (fun σ => L.length - (match Ev.look 31 σ.env with | some (.int _ n) => n.toNat | _ => 0)) ?_ ?_
    · simp only [go_sem, Int.reduceEq, Int.reduceLT, Int.reduceLE, Int.reduceNeg, Nat.reduceAdd, Nat.reduceLT, Nat.reduceEqDiff, Nat.reduceMul, Nat.reduceLeDiff, reduceIte, Nat.reduceBEq, reduceCtorEq, evP_D, evD_guard, evD_cons, evD_zero, evD_nil]
      exact ⟨0, dueL day (l.take i), ⟨Nat.zero_le _, by rw [hsu, hL]; rfl⟩, rfl⟩
    · rintro σ ⟨j, O, ⟨hj, hO⟩, rfl⟩
      by_cases hjt : j < L.length
      case neg =>
        have hj' : j = L.length := by omega
        subst hj'
        have hjt' : ¬ ((L.length : Int) < L.length) := by omega
        have e : O = dueL day (l.take (i + 1)) := by rw [← hO, List.drop_length]; simp [dueFrom]
        simp (disch := (first | omega | assumption)) only [hjt', go_sem, Int.reduceEq, Int.reduceLT, Int.reduceLE, Int.reduceNeg, Nat.reduceAdd, Nat.reduceLT, Nat.reduceEqDiff, Nat.reduceMul, Nat.reduceLeDiff, reduceIte, Nat.reduceBEq, reduceCtorEq, evP_D, evD_guard, evD_cons, evD_zero, evD_nil]
        exact ⟨⟨i + 1, hlt, by rw [e]; rfl⟩, hms⟩
      have hjt' : (j : Int) < L.length := by omega
      obtain ⟨n, hn⟩ : ∃ n, L[j]? = some n := ⟨_, List.getElem?_eq_getElem hjt⟩
      have hgn := get_map (V.int .i64) L j n hn
      have hnb := hbd n (List.mem_of_getElem? hn)
      have hdr := dueFrom_drop (day := day) (p := p) hn
      obtain ⟨hm1, hm2⟩ := add_month (k := (j : Int)) hat ok.add (by omega) (by omega)
      have hA := addF_eq (n := p.at_) (k := (j : Int)) (by omega)
      have eN : addN p.at_ j = Cal.add p.at_ j := if_pos hm1
      have eE : addE p.at_ j = 0 := if_pos hm1
      rw [eN, eE] at hA
      have hmj : L.length - ((j : Int) + 1).toNat < L.length - (j : Int).toNat := by
        have e3 : ((j : Int) + 1).toNat = j + 1 := by omega
        rw [e3, Int.toNat_natCast]; exact Nat.sub_lt_sub_left hjt (Nat.lt_succ_self j)
      have hOl : O.length ≤ 480 := by
        have := congrArg List.length hO
        rw [List.length_append] at this
        omega
      by_cases hgt : day < Cal.add p.at_ j
      · have hno : dueFrom day p j (L.drop j) = [] := dueFrom_none j _ fun q h1 h2 => by
          rw [List.length_drop] at h2
          by_cases e : q = j
          · rw [e]; exact hgt
          · have := add_lt (j := (j : Int)) (k := (q : Int)) hat ok.add (by omega) (by omega) (by omega)
            omega
        have e : O = dueL day (l.take (i + 1)) := by rw [← hO, hno, List.append_nil]
        simp (disch := (first | omega | assumption)) only [hjt', idx_nat, List.length_map, hgn, hA, hgt, go_sem, Int.reduceEq, Int.reduceLT, Int.reduceLE, Int.reduceNeg, Nat.reduceAdd, Nat.reduceLT, Nat.reduceEqDiff, Nat.reduceMul, Nat.reduceLeDiff, reduceIte, Nat.reduceBEq, reduceCtorEq, evP_D, evD_guard, evD_cons, evD_zero, evD_nil]
        exact ⟨⟨i + 1, hlt, by rw [e]; rfl⟩, hms⟩
      · by_cases hn0 : n = 0
        · rw [if_neg (by omega), List.nil_append] at hdr
          simp (disch := (first | omega | assumption)) only [hjt', idx_nat, List.length_map, hgn, hA, hgt, hn0, go_sem, Int.reduceEq, Int.reduceLT, Int.reduceLE, Int.reduceNeg, Nat.reduceAdd, Nat.reduceLT, Nat.reduceEqDiff, Nat.reduceMul, Nat.reduceLeDiff, reduceIte, Nat.reduceBEq, reduceCtorEq, evP_D, evD_guard, evD_cons, evD_zero, evD_nil]
          exact ⟨⟨j + 1, O, ⟨hjt, by rw [← hdr]; exact hO⟩, rfl⟩, hmj⟩
        · rw [if_pos (by omega)] at hdr
          have hK := hKp j (by omega)
          simp (disch := (first | omega | assumption)) only [hjt', idx_nat, List.length_map, hgn, hA, hgt, hn0, hK, Int.zero_sub, go_sem, Int.reduceEq, Int.reduceLT, Int.reduceLE, Int.reduceNeg, Nat.reduceAdd, Nat.reduceLT, Nat.reduceEqDiff, Nat.reduceMul, Nat.reduceLeDiff, reduceIte, Nat.reduceBEq, reduceCtorEq, evP_D, evD_guard, evD_cons, evD_zero, evD_nil]
          exact ⟨⟨j + 1, O ++ [enP p j n], ⟨hjt, by rw [List.append_assoc, ← hdr]; exact hO⟩, by rw [List.map_append, List.map_cons, enJ_P]; rfl⟩, hmj⟩
end Go.Proofs.YtdmkmbaaemhhhaaDoor
