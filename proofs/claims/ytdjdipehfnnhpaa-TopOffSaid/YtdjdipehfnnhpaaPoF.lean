/-
  The place of an entry in a book, run by the machine: slices.BinarySearchFunc.
-/
import Derived.Test.YtdjdipehfnnhpaaPoE
namespace Go.Acc
open Go
theorem posE_mid {x : En} {E : List En} (hs : srtE E) {h : Nat} {y : En} (hy : E[h]? = some y) : (ltB y x = true → ∀ (k : Nat) z, k ≤ h → E[k]? = some z → ltB z x = true) ∧ (ltB y x = false → ∀ (k : Nat) z, h ≤ k → E[k]? = some z → ltB z x = false) := by
  constructor
  · intro hl k z hk hz
    rcases Nat.lt_or_ge k h with hkh | hkh
    · exact ltB_trans (hs k h z y hkh hz hy) hl
    · have e : k = h := by omega
      subst e
      rw [hy] at hz
      cases hz
      exact hl
  · intro hl k z hk hz
    rcases Nat.lt_or_ge h k with hkh | hkh
    · cases hzx : ltB z x with
      | false => rfl
      | true =>
        have := ltB_trans (hs h k y z hkh hy hz) hzx
        rw [hl] at this
        cases this
    · have e : k = h := by omega
      subst e
      rw [hy] at hz
      cases hz
      exact hl
end Go.Acc
namespace Go.Proofs.Ytdjdipehfnnhpaa
open Go Go.Ev Go.RowKit Go.Acc
set_option maxHeartbeats 4000000
set_option linter.unusedSimpArgs false
set_option linter.unusedVariables false
attribute [local go_sem] subE partR boundsV ownP sliceW copyV clearV lenM takeV tk1 mapsV mkMapV hintOk lookV updV mapKE keyOk V.key app_lend callW_fn lendV postL_ret postL_normal postT_ret postT_normal takeR St.lent mkX_L bin_eql_vz bin_eql_zv bin_eql_rz bin_eql_zr bin_eql_zz bin_neq_vz bin_neq_zv bin_neq_rz bin_neq_zr bin_neq_zz eqH nilEq nonE plainI gOf_bool gOf_skip g_some g_none Int.ofNat_zero Int.cast_ofNat_Int Bool.false_and Bool.and_false sliceV noBox elemsZ V.scrub V.scrubL Blk.scrub appendV isSlice maxLen_eq leT List.contains_nil List.contains_cons nvL_at fzL_at fillV V.plain V.plainL Blk.plain List.size_toArray mapO_nil mapO_cons Option.isNone_none Option.isNone_some beqT beqF oI_not mkX_e phi_nil phi_cons bin_eql_bool bin_neq_bool bin_eql_agg bin_neq_agg eqV eqFs eqK_int eqK_bool' eqK_str mkX_T mkX_Φ mkX_n mkX_f mkX_d mkX_r nv0_at fz0_at evQ_dr evP_W evW_nil evW_cons evW_guard okW_eq tame_none tame_new tame_write wb_none wb_new wb_write okU_some offW_none offW_some touchOf V.noRef V.noRefL Option.isSome_some Option.isSome_none mild_none mild_new Option.getD_some Option.getD_none evQ_seq evQ_region evQ_block evQ_cond evQ_ret evQ_skip evQ_exit evO_cons evO_nil evO_guard freezeL_nil oS_some oS_none oS_ite oS_ite' oB_bool oI_true oI_false oE_normal oE_exit oE_ret bQ_normal bQ_ret bQ_exit lQ_normal lQ_ret lQ_exit List.zipIdx_cons List.zipIdx_nil List.map_cons List.map_nil evalOp opd_const opd_tmp opd_func ofC_int ofC_bool ofC_str ofC_nil app_none app_new app_write app_change putE_some putE_none setA_cons setA_nil setH_cons setH_nil mapA_cons mapA_nil look_cons look_nil e_mk h_mk drop_nil drop_mk keep_mk dstOk_some dstOk_none guardT_eq true_and and_true Bool.not_false Bool.not_true selB_true selB_false mem_nil mem_cons kpL_nil kpL_cons drL_nil drL_cons closed_mk V.refsIn V.refsInL Blk.refsIn List.all_cons List.all_nil lenV bin_add bin_sub bin_mul bin_quo bin_rem bin_eql bin_neq bin_lss bin_leq bin_gtr bin_geq un_neg un_not post_ret post_normal St.init Bool.false_eq_true List.length_map Bool.or_false Bool.or_true Bool.false_or Bool.true_or beq_self_eq_true Option.map_some Option.map_none Option.bind_some List.getElem?_cons_zero List.getElem?_cons_succ scalar stor isAggV V.cells List.cons_append List.nil_append if_true if_false wrap_of callV V.dataL V.data Bool.and_true Bool.true_and fresh names V.ren V.renL retV resV packL packV packC getBlks wrapR subV putV decide_true decide_false TK.agg List.length_cons List.length_nil List.take_succ_cons List.take_zero List.drop_succ_cons List.drop_zero List.take_nil List.drop_nil Nat.zero_add Nat.add_zero List.append_nil List.getElem?_nil elemsV ro ro0 ro1 roC ty2 ty3 ty4 ty5 ty6 ty7 ty8 ty9 ty10 ty11 ty12 ty13 ty14 ty18 ty19 ty21 ty24 ty25 ty33 ty34 ty35 ty36 ty41 ty42 ty43 ty45 ty46 ty53 ty63 ty64 ty69 ty74 ty77 ty78 ty96 ty98 ty108 ty115 ty142 ty143 ty148 ty149 ty152 ty153 ty154 ty155 eqs46 eqs64 eqs78
theorem half_shr (n : Nat) : binV .shr (.int .u64 ((n : Nat) : Int)) (.int .u64 1) = some (.int .u64 ((n / 2 : Nat) : Int)) := by
  have h : (2 ^ (min (Int.toNat 1) IntKind.u64.bits) : Int) = 2 := rfl
  have e : binV .shr (.int .u64 ((n : Nat) : Int)) (.int .u64 1) = some (.int .u64 (Int.fdiv ((n : Nat) : Int) (2 ^ (min (Int.toNat 1) IntKind.u64.bits)))) := by unfold binV; simp
  rw [e, h, Int.fdiv_eq_ediv_of_nonneg _ (by omega)]
  rfl
set_option maxHeartbeats 4000000 in
theorem bse_sound {J : World → Prop} (hJ : Stable J) (E : List En) (x : En) (hs : srtE E) (hE : ∀ y ∈ E, 0 ≤ y.2.1 ∧ y.2.1 ≤ 292193) (hx : 0 ≤ x.2.1 ∧ x.2.1 ≤ 292193) (hl : E.length ≤ 60) :
    SoundAt Try.prog J 51 [.row 3 (E.map enW), enW x, .fn 52 []] (.tup [.int .i64 (posE x E), .bool (bsB x E)]) [] := by
  obtain ⟨xk, xd, xl⟩ := x
  simp only at hx
  unfold enW
  refine evFn (l := [(52, cmpF)]) (nv := nv0) (fz := fz0) (dr := dr51) (dd := dd51) (lam := []) ⟨cmp_snd hJ, trivial⟩ hJ trivial Try.func51 rfl rfl (Nat.le_of_ble_eq_true rfl) (Nat.le_of_ble_eq_true rfl) drOk51 ?_
  dsimp only [Try.f51, dr51, dd51, Option.getD_some]
  refine ev_start ?_
  simp (disch := omega) only [List.length_map, go_sem, Int.reduceEq, Int.reduceLT, Int.reduceLE, Int.reduceNeg, Nat.reduceAdd, Nat.reduceLT, Nat.reduceEqDiff, Nat.reduceMul, Nat.reduceLeDiff, reduceIte, Nat.reduceBEq, reduceCtorEq, evP_D, evD_guard, evD_cons, evD_zero, evD_nil]
  refine evQ_loop [0, 2, 4, 8, 9, 10] [32] (fun σ => ∃ i j : Nat, (i ≤ j ∧ j ≤ E.length ∧ (∀ (k : Nat) y, k < i → E[k]? = some y → ltB y (xk, xd, xl) = true) ∧ (∀ (k : Nat) y, j ≤ k → E[k]? = some y → ltB y (xk, xd, xl) = false)) ∧
      σ = ⟨[(0, .row 3 (E.map enW)), (2, .fn 52 []), (4, .ptr 32 0), (8, .int .i64 E.length), (9, .int .i64 i), (10, .int .i64 j)], [(32, .box (.agg [.str xk, .int .i64 xd, .row 2 (xl.map acV)]))]⟩)
    (fun σ => (match Ev.look 10 σ.env with | some (.int _ n) => n.toNat | _ => 0) - (match Ev.look 9 σ.env with | some (.int _ n) => n.toNat | _ => 0)) ?_ ?_
  · simp only [go_sem, Int.reduceEq, Int.reduceLT, Int.reduceLE, Int.reduceNeg, Nat.reduceAdd, Nat.reduceLT, Nat.reduceEqDiff, Nat.reduceMul, Nat.reduceLeDiff, reduceIte, Nat.reduceBEq, reduceCtorEq, evP_D, evD_guard, evD_cons, evD_zero, evD_nil]
    exact ⟨0, E.length, ⟨Nat.zero_le _, Nat.le_refl _, fun _ _ h => by omega, fun k y hk hy => by have := (List.getElem?_eq_some_iff.1 hy).1; omega⟩, rfl⟩
  · rintro σ ⟨i, j, ⟨hij, hj, h1, h2⟩, rfl⟩
    by_cases hlt : i < j
    · have hlt' : (i : Int) < j := by omega
      have hlt1 : (i + j) / 2 < E.length := by omega
      obtain ⟨⟨c, d, l⟩, hcn⟩ : ∃ p, E[(i + j) / 2]? = some p := ⟨_, List.getElem?_eq_getElem hlt1⟩
      have hg := enW_get hcn
      have hdd := hE _ (List.mem_of_getElem? hcn)
      simp only at hdd
      have hc := cmpF_eq (a := c) (b := xk) (d := d) (e := xd) (l := l) (m := xl) hdd hx
      have w1 : IntKind.i64.wrap ((i : Int) + (j : Int)) = ((i + j : Nat) : Int) := by rw [IntKind.wrap_i64]; omega
      have w2 : IntKind.u64.wrap ((i + j : Nat) : Int) = ((i + j : Nat) : Int) := by simp [IntKind.wrap, IntKind.bits, IntKind.signed]; omega
      have w3 : IntKind.i64.wrap (((i + j) / 2 : Nat) : Int) = (((i + j) / 2 : Nat) : Int) := by rw [IntKind.wrap_i64]; omega
      have hm := posE_mid (x := (xk, xd, xl)) hs hcn
      cases hb : ltB (c, d, l) (xk, xd, xl) with
      | true =>
        have hneg : cmpE (c, d, l) (xk, xd, xl) < 0 := by
          have := (cmpE_ge (c, d, l) (xk, xd, xl))
          rw [hb] at this
          simp only [reduceCtorEq, iff_false] at this
          omega
        simp (disch := (first | omega | assumption)) only [hlt', w1, w2, w3, half_shr, idx_nat, List.length_map, hg, hc, hneg, go_sem, Int.reduceEq, Int.reduceLT, Int.reduceLE, Int.reduceNeg, Nat.reduceAdd, Nat.reduceLT, Nat.reduceEqDiff, Nat.reduceMul, Nat.reduceLeDiff, reduceIte, Nat.reduceBEq, reduceCtorEq, evP_D, evD_guard, evD_cons, evD_zero, evD_nil]
        refine ⟨⟨(i + j) / 2 + 1, j, ⟨by omega, hj, fun k y hk hy => hm.1 hb k y (by omega) hy, h2⟩, rfl⟩, ?_⟩
        have e3 : ((((i + j) / 2 : Nat) : Int) + 1).toNat = (i + j) / 2 + 1 := by omega
        rw [e3, Int.toNat_natCast, Int.toNat_natCast]
        omega
      | false =>
        have hneg : ¬ cmpE (c, d, l) (xk, xd, xl) < 0 := by
          have := (cmpE_ge (c, d, l) (xk, xd, xl)).2 hb
          omega
        simp (disch := (first | omega | assumption)) only [hlt', w1, w2, w3, half_shr, idx_nat, List.length_map, hg, hc, hneg, go_sem, Int.reduceEq, Int.reduceLT, Int.reduceLE, Int.reduceNeg, Nat.reduceAdd, Nat.reduceLT, Nat.reduceEqDiff, Nat.reduceMul, Nat.reduceLeDiff, reduceIte, Nat.reduceBEq, reduceCtorEq, evP_D, evD_guard, evD_cons, evD_zero, evD_nil]
        refine ⟨⟨i, (i + j) / 2, ⟨by omega, by omega, h1, fun k y hk hy => hm.2 hb k y hk hy⟩, rfl⟩, ?_⟩
        rw [Int.toNat_natCast, Int.toNat_natCast, Int.toNat_natCast]
        omega
    · have hij' : i = j := by omega
      subst hij'
      have hlt' : ¬ ((i : Int) < (i : Int)) := by omega
      have hp := posE_uniq (xk, xd, xl) E i hj h1 h2
      rw [hp]
      by_cases hi : i < E.length
      · have hi' : (i : Int) < E.length := by omega
        obtain ⟨⟨c, d, l⟩, hcn⟩ : ∃ p, E[i]? = some p := ⟨_, List.getElem?_eq_getElem hi⟩
        have hg := enW_get hcn
        have hdd := hE _ (List.mem_of_getElem? hcn)
        simp only at hdd
        have hc := cmpF_eq (a := c) (b := xk) (d := d) (e := xd) (l := l) (m := xl) hdd hx
        have hbs : bsB (xk, xd, xl) E = decide (cmpE (c, d, l) (xk, xd, xl) = 0) := by unfold bsB; rw [hp, hcn]
        by_cases h0 : cmpE (c, d, l) (xk, xd, xl) = 0
        · have h0' := decide_eq_true h0
          simp (disch := (first | omega | assumption)) only [hlt', hi', idx_nat, List.length_map, hg, hc, hbs, h0, go_sem, Int.reduceEq, Int.reduceLT, Int.reduceLE, Int.reduceNeg, Nat.reduceAdd, Nat.reduceLT, Nat.reduceEqDiff, Nat.reduceMul, Nat.reduceLeDiff, reduceIte, Nat.reduceBEq, reduceCtorEq, evP_D, evD_guard, evD_cons, evD_zero, evD_nil]
        · have h0' := decide_eq_false h0
          simp (disch := (first | omega | assumption)) only [hlt', hi', idx_nat, List.length_map, hg, hc, hbs, h0, go_sem, Int.reduceEq, Int.reduceLT, Int.reduceLE, Int.reduceNeg, Nat.reduceAdd, Nat.reduceLT, Nat.reduceEqDiff, Nat.reduceMul, Nat.reduceLeDiff, reduceIte, Nat.reduceBEq, reduceCtorEq, evP_D, evD_guard, evD_cons, evD_zero, evD_nil]
      · have hi' : ¬ ((i : Int) < E.length) := by omega
        have hbs : bsB (xk, xd, xl) E = false := by unfold bsB; rw [hp, List.getElem?_eq_none (by omega)]
        simp (disch := (first | omega | assumption)) only [hlt', hi', hbs, go_sem, Int.reduceEq, Int.reduceLT, Int.reduceLE, Int.reduceNeg, Nat.reduceAdd, Nat.reduceLT, Nat.reduceEqDiff, Nat.reduceMul, Nat.reduceLeDiff, reduceIte, Nat.reduceBEq, reduceCtorEq, evP_D, evD_guard, evD_cons, evD_zero, evD_nil]
end Go.Proofs.Ytdjdipehfnnhpaa
