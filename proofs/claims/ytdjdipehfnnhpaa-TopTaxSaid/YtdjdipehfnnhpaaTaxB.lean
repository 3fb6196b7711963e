/-
  TopTax's law, run by the machine.
  TopTax's law at whatever arguments its types allow.
-/
import Derived.Test.YtdjdipehfnnhpaaTaxA
namespace Go.Proofs.Ytdjdipehfnnhpaa
open Go Go.Ev Go.RowKit Go.Acc
set_option maxHeartbeats 4000000
set_option linter.unusedSimpArgs false
set_option linter.unusedVariables false
attribute [local go_sem] lenM takeV tk1 mapsV mkMapV hintOk lookV updV mapKE keyOk V.key app_lend callW_fn lendV postL_ret postL_normal St.lent mkX_L bin_eql_vz bin_eql_zv bin_eql_rz bin_eql_zr bin_eql_zz bin_neq_vz bin_neq_zv bin_neq_rz bin_neq_zr bin_neq_zz eqH nilEq nonE plainI gOf_bool gOf_skip g_some g_none Int.ofNat_zero Int.cast_ofNat_Int Bool.false_and Bool.and_false sliceV noBox elemsZ V.scrub V.scrubL Blk.scrub appendV isSlice maxLen_eq leT List.contains_nil List.contains_cons nvL_at fzL_at fillV V.plain V.plainL Blk.plain List.size_toArray mapO_nil mapO_cons Option.isNone_none Option.isNone_some beqT beqF oI_not mkX_e phi_nil phi_cons bin_eql_bool bin_neq_bool bin_eql_agg bin_neq_agg eqV eqFs eqK_int eqK_bool' eqK_str mkX_T mkX_Φ mkX_n mkX_f mkX_d mkX_r nv0_at fz0_at evQ_dr evP_W evW_nil evW_cons evW_guard okW_eq tame_none tame_new tame_write wb_none wb_new wb_write okU_some offW_none offW_some touchOf V.noRef V.noRefL Option.isSome_some Option.isSome_none mild_none mild_new Option.getD_some Option.getD_none evQ_seq evQ_region evQ_block evQ_cond evQ_ret evQ_skip evQ_exit evO_cons evO_nil evO_guard freezeL_nil oS_some oS_none oS_ite oS_ite' oB_bool oI_true oI_false oE_normal oE_exit oE_ret bQ_normal bQ_ret bQ_exit lQ_normal lQ_ret lQ_exit List.zipIdx_cons List.zipIdx_nil List.map_cons List.map_nil evalOp opd_const opd_tmp opd_func ofC_int ofC_bool ofC_str ofC_nil app_none app_new app_write app_change putE_some putE_none setA_cons setA_nil setH_cons setH_nil mapA_cons mapA_nil look_cons look_nil e_mk h_mk drop_nil drop_mk keep_mk dstOk_some dstOk_none guardT_eq true_and and_true Bool.not_false Bool.not_true selB_true selB_false mem_nil mem_cons kpL_nil kpL_cons drL_nil drL_cons closed_mk V.refsIn V.refsInL Blk.refsIn List.all_cons List.all_nil lenV bin_add bin_sub bin_mul bin_quo bin_rem bin_eql bin_neq bin_lss bin_leq bin_gtr bin_geq un_neg un_not post_ret post_normal St.init Bool.false_eq_true List.length_map Bool.or_false Bool.or_true Bool.false_or Bool.true_or beq_self_eq_true Option.map_some Option.map_none Option.bind_some List.getElem?_cons_zero List.getElem?_cons_succ scalar stor isAggV V.cells List.cons_append List.nil_append if_true if_false wrap_of callV V.dataL V.data Bool.and_true Bool.true_and fresh names V.ren V.renL retV resV packL packV packC getBlks wrapR subV putV decide_true decide_false TK.agg List.length_cons List.length_nil List.take_succ_cons List.take_zero List.drop_succ_cons List.drop_zero List.take_nil List.drop_nil Nat.zero_add Nat.add_zero List.append_nil List.getElem?_nil elemsV ro ro0 ro1 roC ty2 ty3 ty4 ty5 ty6 ty7 ty8 ty9 ty10 ty11 ty12 ty13 ty14 ty18 ty19 ty21 ty24 ty25 ty33 ty34 ty35 ty36 ty41 ty42 ty43 ty45 ty46 ty53 ty63 ty64 ty69 ty74 ty77 ty78 ty96 ty98 ty108 ty115 ty142 ty143 ty148 ty149 ty152 ty153 ty154 ty155 eqs46 eqs64 eqs78
theorem enW_tx (n : Nat) (net tax : Int) (h : 0 < tax) : enW (txX n net tax) = .agg [.str (keyT n), .int .i64 n, .row 2 [.agg [.str c10, .int .i64 (net + tax)], .agg [.str c40, .int .i64 (-net)], .agg [.str c20, .int .i64 (-tax)]]] := by
  unfold txX
  rw [if_pos h]
  rfl
theorem enW_tx0 (n : Nat) (net tax : Int) (h : ¬ 0 < tax) : enW (txX n net tax) = .agg [.str (keyT n), .int .i64 n, .row 2 [.agg [.str c10, .int .i64 net], .agg [.str c40, .int .i64 (-net)]]] := by
  unfold txX
  rw [if_neg h]
  rfl
theorem idx3_0 : idx 3 0 = some 0 := by decide
theorem sl_take (l : List Int) (m : Nat) : ∃ h : Nat, h ≤ l.length ∧ h ≤ m ∧ (if (m : Int) < (l.length : Int) then (m : Int) else (l.length : Int)) = (h : Int) ∧ (l.map (V.int .i64)).take h = (l.take m).map (V.int .i64) ∧ (l.take m).length = h := by
  by_cases hc : m < l.length
  · refine ⟨m, by omega, Nat.le_refl _, by rw [if_pos (by omega)], ?_, by rw [List.length_take]; omega⟩
    rw [← List.map_take]
  · refine ⟨l.length, Nat.le_refl _, by omega, by rw [if_neg (by omega)], ?_, by rw [List.length_take]; omega⟩
    rw [← List.map_take, List.take_length, List.take_of_length_le (by omega)]
set_option maxRecDepth 20000 in
set_option maxHeartbeats 16000000 in
theorem tax_law {J : World → Prop} (hJ : Stable J) (bills : List Int) (rate : Int) (l : List Int) (hb : bills.length ≤ maxLen) (hl : l.length ≤ maxLen) : SoundAt Try.prog J 4 [.row 1 (bills.map (V.int .i64)), .int .i64 rate, .row 1 (l.map (V.int .i64))] (.bool true) [] := by
  have hBg := begun_sound hJ
  have hPl := tplain_sound hJ
  obtain ⟨WF, hWF, hWFs⟩ := within_ex hJ
  obtain ⟨MF, hMF, hMFs⟩ := movedo_ex hJ
  obtain ⟨PF, hPF, hPFs⟩ := post_ex hJ plA (-1)
  obtain ⟨BF, hBF, hBFs⟩ := balance_ex hJ plA (-1)
  obtain ⟨NF, hNF, hNFs⟩ := mwithin_ex (J := J)
  obtain ⟨YF, hYF, hYFs⟩ := by_ex hJ (1 :: l.take 3)
  obtain ⟨SF, hSF, hSFs⟩ := psum_ex hJ (1 :: l.take 3)
  obtain ⟨GF, hGF, hGFs⟩ := profit_ex hJ plA (-1) 0 99
  have W1 := hWF rate 1000001 (by decide) (by decide)
  have wb1 := wthn_bd rate (n := 1000001) (by decide)
  generalize wthn rate 1000001 = R at *
  unfold maxLen at hb hl
  obtain ⟨hB, hB1, hB2, hB3, hB4, hB5⟩ := sl_take bills 30
  obtain ⟨hL, hL1, hL2, hL3, hL4, hL5⟩ := sl_take l 3
  generalize bills.take 30 = B at *
  have z30 : ((30 : Nat) : Int) = 30 := rfl
  have z3 : ((3 : Nat) : Int) = 3 := rfl
  rw [z30] at hB3
  rw [z3] at hL3
  have hbl : (bills.length : Int) ≤ 9223372036854775807 := by omega
  have hll : (l.length : Int) ≤ 9223372036854775807 := by omega
  have hc1 : (0 : Int) ≤ (hB : Int) ∧ (hB : Int) ≤ (bills.length : Int) := by omega
  have hc2 : (0 : Int) ≤ (hL : Int) ∧ (hL : Int) ≤ (l.length : Int) := by omega
  unfold bkV at hPl
  refine evFn (l := [(7, at1 _ (_, [])), (15, at1 _ (_, [])), (8, WF), (18, MF), (19, PF), (20, BF), (16, NF), (17, YF), (14, SF), (21, GF)]) (nv := nv0) (fz := fzL [(101, [624])]) (dr := dr4) (dd := dd4) (lam := []) ⟨at1_snd hBg, at1_snd hPl, hWFs, hMFs, hPFs, hBFs, hNFs, hYFs, hSFs, hGFs, trivial⟩ hJ trivial Try.func4 rfl rfl (Nat.le_of_ble_eq_true rfl) (Nat.le_of_ble_eq_true rfl) drOk4 ?_
  dsimp only [Try.f4, dr4, dd4, Option.getD_some]
  refine ev_start ?_
  subst hB5
  simp (disch := omega) only [at1_eq, W1, List.length_map, hB3, hc1, hB4, and_self, Int.toNat_natCast, go_sem, Int.reduceEq, Int.reduceLT, Int.reduceLE, Int.reduceNeg, Nat.reduceAdd, Nat.reduceLT, Nat.reduceEqDiff, Nat.reduceMul, Nat.reduceLeDiff, reduceIte, Nat.reduceBEq, reduceCtorEq, evP_D, evD_guard, evD_cons, evD_zero, evD_nil]
  refine evQ_loop [1, 2, 7, 8, 9, 32, 33, 34] [56] (fun σ => ∃ (i : Nat) (all taxes : Int) (E : List En), ((i ≤ B.length ∧ (0 ≤ all ∧ all ≤ i * 1000001) ∧ 0 ≤ taxes ∧ taxes ≤ all) ∧ Txd i all taxes E) ∧ σ = ⟨[(1, .int .i64 R), (2, .row 1 (l.map (V.int .i64))), (7, .ptr 56 0), (8, .int .i64 all), (9, .int .i64 taxes), (32, .row 1 (B.map (V.int .i64))), (33, .int .i64 B.length), (34, .int .i64 i)], [(56, .box (.agg [.row 2 (plA.map acV), .row 3 (E.map enW), .int .i64 (-1)]))]⟩)
    (fun σ => B.length - (match Ev.look 34 σ.env with | some (.int _ n) => n.toNat | _ => 0)) ?_ ?_
  · simp only [go_sem, Int.reduceEq, Int.reduceLT, Int.reduceLE, Int.reduceNeg, Nat.reduceAdd, Nat.reduceLT, Nat.reduceEqDiff, Nat.reduceMul, Nat.reduceLeDiff, reduceIte, Nat.reduceBEq, reduceCtorEq, evP_D, evD_guard, evD_cons, evD_zero, evD_nil]
    exact ⟨0, 0, 0, [], ⟨⟨Nat.zero_le _, by omega, by omega, by omega⟩, txd_zero⟩, rfl⟩
  · rintro σ ⟨i, all, taxes, E, ⟨⟨hiB, ha, ht0, ht1⟩, hTx⟩, rfl⟩
    have hEl := (bkChk_iff.1 hTx.ok).2.2.1
    have hEm : E.length ≤ maxLen := by unfold maxLen; omega
    by_cases hlt : i < B.length
    · have hlt' : (i : Int) < B.length := by omega
      obtain ⟨b, hgb⟩ : ∃ b, B[i]? = some b := ⟨_, List.getElem?_eq_getElem hlt⟩
      have hgb' := get_map (V.int .i64) B i b hgb
      have W2 := hWF b 1000000 (by decide) (by decide)
      have wb2 := wthn_bd b (n := 1000000) (by decide)
      generalize wthn b 1000000 = Q at *
      obtain ⟨g, hgd⟩ : ∃ g, g = 2 + Q := ⟨_, rfl⟩
      have N1 := hNF g R (by omega) (by omega) (by omega) (by omega)
      have nb := netI_bd (g := g) (r := R) (by omega) (by omega) (by omega)
      generalize netI g R = net at *
      obtain ⟨tax, htd⟩ : ∃ tax, tax = g - net := ⟨_, rfl⟩
      rw [← htd] at N1
      have Y1 := hYF net
      have M1 := hMF i i net c10 c40 (by omega) (by omega) (by omega)
      obtain ⟨q1, q2⟩ := txd_post hTx (i := i) (net := net) (tax := tax) (by omega) (by omega) (by omega) (by omega)
      have P1 := hPF E (txX i net tax) hEm
      have R1 : posR plA E (-1) (txX i net tax) = .tup [.agg [.row 2 (plA.map acV), .row 3 ((postB E (txX i net tax)).map enW), .int .i64 (-1)], .int .i64 0] := by unfold posR; rw [q1, if_pos rfl]; rfl
      rw [R1] at P1
      generalize postB E (txX i net tax) = E' at *
      clear R1 q1
      have egt : all + (net + tax) = all + g := by omega
      rw [egt] at q2
      have hms : B.length - ((i : Int) + 1).toNat < B.length - (i : Int).toNat := by
        have e3 : ((i : Int) + 1).toNat = i + 1 := by omega
        rw [e3, Int.toNat_natCast]; exact Nat.sub_lt_sub_left hlt (Nat.lt_succ_self i)
      rw [Int.toNat_natCast] at hms
      have hfin : ((i + 1 ≤ B.length ∧ (0 ≤ all + g ∧ all + g ≤ ((i + 1 : Nat) : Int) * 1000001) ∧ 0 ≤ taxes + tax ∧ taxes + tax ≤ all + g) ∧ Txd (i + 1) (all + g) (taxes + tax) E') := ⟨⟨hlt, ⟨by omega, by omega⟩, by omega, by omega⟩, q2⟩
      simp only [c10, c40] at M1
      simp only [List.map_cons] at Y1
      have h1n : ¬ net < 1 := by omega
      have hgd' : (2 : Int) + Q = g := hgd.symm
      by_cases htx : 0 < tax
      · rw [enW_tx i net tax htx] at P1
        simp only [c10, c20, c40] at P1
        by_cases hby : byE net (1 :: l.take 3) = 0
        · have hmag : mag net = net := by unfold mag; rw [if_neg (by omega)]
          have hsgn : sgn net = 1 := by unfold sgn; rw [if_neg (by omega)]
          have S1 := hSF net hby
          rw [hmag] at S1
          have eY : byR net (1 :: l.take 3) = (.tup [.vec 0, .int .i64 0], [.vec 3 1 ((partsL net (1 :: l.take 3)).map (V.int .i64))]) := by
            unfold byR
            rw [if_pos hby, hmag, hsgn]
            simp
          rw [eY] at Y1
          simp (disch := (first | omega | assumption)) only [hlt', idx_nat, List.length_map, hgb', W2, hgd', N1, h1n, hL3, hc2, hL4, and_self, Int.toNat_natCast, Y1, S1, M1, htx, P1, idx3_0, Int.zero_sub, List.set_cons_zero, freezeL, St.freeze, List.filter_cons, List.filter_nil, bne, go_sem, Int.reduceEq, Int.reduceLT, Int.reduceLE, Int.reduceNeg, Nat.reduceAdd, Nat.reduceLT, Nat.reduceEqDiff, Nat.reduceMul, Nat.reduceLeDiff, reduceIte, Nat.reduceBEq, reduceCtorEq, evP_D, evD_guard, evD_cons, evD_zero, evD_nil]
          exact ⟨⟨i + 1, all + g, taxes + tax, E', hfin, rfl⟩, hms⟩
        · have eY : byR net (1 :: l.take 3) = (.tup [.zero, .int .i64 (byE net (1 :: l.take 3))], []) := if_neg hby
          rw [eY] at Y1
          generalize byE net (1 :: l.take 3) = e at *
          simp (disch := (first | omega | assumption)) only [hlt', idx_nat, List.length_map, hgb', W2, hgd', N1, h1n, hL3, hc2, hL4, and_self, Int.toNat_natCast, Y1, hby, M1, htx, P1, idx3_0, Int.zero_sub, List.set_cons_zero, freezeL, St.freeze, List.filter_cons, List.filter_nil, bne, go_sem, Int.reduceEq, Int.reduceLT, Int.reduceLE, Int.reduceNeg, Nat.reduceAdd, Nat.reduceLT, Nat.reduceEqDiff, Nat.reduceMul, Nat.reduceLeDiff, reduceIte, Nat.reduceBEq, reduceCtorEq, evP_D, evD_guard, evD_cons, evD_zero, evD_nil]
          exact ⟨⟨i + 1, all + g, taxes + tax, E', hfin, rfl⟩, hms⟩
      · rw [enW_tx0 i net tax htx] at P1
        simp only [c10, c20, c40] at P1
        by_cases hby : byE net (1 :: l.take 3) = 0
        · have hmag : mag net = net := by unfold mag; rw [if_neg (by omega)]
          have hsgn : sgn net = 1 := by unfold sgn; rw [if_neg (by omega)]
          have S1 := hSF net hby
          rw [hmag] at S1
          have eY : byR net (1 :: l.take 3) = (.tup [.vec 0, .int .i64 0], [.vec 3 1 ((partsL net (1 :: l.take 3)).map (V.int .i64))]) := by
            unfold byR
            rw [if_pos hby, hmag, hsgn]
            simp
          rw [eY] at Y1
          simp (disch := (first | omega | assumption)) only [hlt', idx_nat, List.length_map, hgb', W2, hgd', N1, h1n, hL3, hc2, hL4, and_self, Int.toNat_natCast, Y1, S1, M1, htx, P1, idx3_0, Int.zero_sub, List.set_cons_zero, freezeL, St.freeze, List.filter_cons, List.filter_nil, bne, go_sem, Int.reduceEq, Int.reduceLT, Int.reduceLE, Int.reduceNeg, Nat.reduceAdd, Nat.reduceLT, Nat.reduceEqDiff, Nat.reduceMul, Nat.reduceLeDiff, reduceIte, Nat.reduceBEq, reduceCtorEq, evP_D, evD_guard, evD_cons, evD_zero, evD_nil]
          exact ⟨⟨i + 1, all + g, taxes + tax, E', hfin, rfl⟩, hms⟩
        · have eY : byR net (1 :: l.take 3) = (.tup [.zero, .int .i64 (byE net (1 :: l.take 3))], []) := if_neg hby
          rw [eY] at Y1
          generalize byE net (1 :: l.take 3) = e at *
          simp (disch := (first | omega | assumption)) only [hlt', idx_nat, List.length_map, hgb', W2, hgd', N1, h1n, hL3, hc2, hL4, and_self, Int.toNat_natCast, Y1, hby, M1, htx, P1, idx3_0, Int.zero_sub, List.set_cons_zero, freezeL, St.freeze, List.filter_cons, List.filter_nil, bne, go_sem, Int.reduceEq, Int.reduceLT, Int.reduceLE, Int.reduceNeg, Nat.reduceAdd, Nat.reduceLT, Nat.reduceEqDiff, Nat.reduceMul, Nat.reduceLeDiff, reduceIte, Nat.reduceBEq, reduceCtorEq, evP_D, evD_guard, evD_cons, evD_zero, evD_nil]
          exact ⟨⟨i + 1, all + g, taxes + tax, E', hfin, rfl⟩, hms⟩
    · have hiM : i = B.length := by omega
      subst hiM
      have hlt' : ¬ ((B.length : Int) < (B.length : Int)) := by omega
      have BK := hBF E c10 99 hEm
      have BL := hBF E c20 99 hEm
      have GE := hGF E hEm
      obtain ⟨k1, k2⟩ := bal_ok (d := 99) hTx.ok plA_has.1 (by omega) (by omega)
      obtain ⟨l1, l2⟩ := bal_ok (d := 99) hTx.ok plA_has.2.2.1 (by omega) (by omega)
      rw [k1, k2, hTx.a10] at BK
      rw [l1, l2, hTx.a20] at BL
      have t0 : tlookE plA E (-1) 0 = 0 := by unfold tlookE; rw [if_neg (fun h => h hTx.ok), if_pos (by omega)]
      have p1 : profE plA E (-1) 0 99 = 0 := by unfold profE; rw [if_neg (fun h => h t0), if_pos (by omega)]
      have p2 : profN plA E (-1) 0 99 = all - taxes := by
        unfold profN
        rw [if_pos p1, (kdS_pl E 0 99).1, (kdS_pl E 0 99).2, hTx.a40, hTx.a50]
        omega
      rw [p1, p2] at GE
      simp only [c10] at BK
      simp only [c20] at BL
      simp (disch := (first | omega | assumption)) only [hlt', BK, BL, GE, Int.zero_sub, go_sem, Int.reduceEq, Int.reduceLT, Int.reduceLE, Int.reduceNeg, Nat.reduceAdd, Nat.reduceLT, Nat.reduceEqDiff, Nat.reduceMul, Nat.reduceLeDiff, reduceIte, Nat.reduceBEq, reduceCtorEq, evP_D, evD_guard, evD_cons, evD_zero, evD_nil]
end Go.Proofs.Ytdjdipehfnnhpaa
namespace Go.Proofs.Ytdjdipehfnnhpaa
open Go Go.Ev Go.RowKit Go.Acc
set_option maxRecDepth 100000 in
theorem walkTopTax (c0 : V) (h0 : TyV Try.prog 9 24 c0) (c1 : V) (h1 : TyV Try.prog 9 3 c1) (c2 : V) (h2 : TyV Try.prog 9 24 c2) :
    SoundAt Try.prog J0 4 [c0, c1, c2] (.bool true) [] := by
  obtain ⟨n0, rfl, b0⟩ := ty_ints (m := 7) h0 Try.underlying24 Try.underlying3 (by kernel_rfl)
  obtain ⟨n1, rfl, _⟩ := ty_int (m := 8) h1 Try.underlying3
  obtain ⟨n2, rfl, b2⟩ := ty_ints (m := 7) h2 Try.underlying24 Try.underlying3 (by kernel_rfl)
  exact SoundAt.row 0 rfl (callOk Try.func4 rfl rfl) fun hb => SoundAt.row 2 rfl (callOk Try.func4 rfl rfl) fun hl => tax_law stable0 n0 n1 n2 (by simpa using hb) (by simpa using hl)
end Go.Proofs.Ytdjdipehfnnhpaa
