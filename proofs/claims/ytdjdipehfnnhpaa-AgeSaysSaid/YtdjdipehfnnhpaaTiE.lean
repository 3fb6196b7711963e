/-
  Items: what may be, and their order, run by the machine.
-/
import Derived.Test.YtdjdipehfnnhpaaTiP
import Derived.Test.YtdjdipehfnnhpaaSplE
import Derived.Test.YtdjdipehfnnhpaaInsI
namespace Go.Proofs.Ytdjdipehfnnhpaa
open Go Go.Ev Go.RowKit Go.Tie Go.Spl Go.Srt
set_option maxHeartbeats 4000000
set_option linter.unusedSimpArgs false
set_option linter.unusedVariables false
attribute [local go_sem] subE partR boundsV ownP sliceW copyV clearV lenM takeV tk1 mapsV mkMapV hintOk lookV updV mapKE keyOk V.key app_lend callW_fn lendV postL_ret postL_normal postT_ret postT_normal takeR St.lent mkX_L bin_eql_vz bin_eql_zv bin_eql_rz bin_eql_zr bin_eql_zz bin_neq_vz bin_neq_zv bin_neq_rz bin_neq_zr bin_neq_zz eqH nilEq nonE plainI gOf_bool gOf_skip g_some g_none Int.ofNat_zero Int.cast_ofNat_Int Bool.false_and Bool.and_false sliceV noBox elemsZ V.scrub V.scrubL Blk.scrub appendV isSlice maxLen_eq leT List.contains_nil List.contains_cons nvL_at fzL_at fillV V.plain V.plainL Blk.plain List.size_toArray mapO_nil mapO_cons Option.isNone_none Option.isNone_some beqT beqF oI_not mkX_e phi_nil phi_cons bin_eql_bool bin_neq_bool bin_eql_agg bin_neq_agg eqV eqFs eqK_int eqK_bool' eqK_str mkX_T mkX_Φ mkX_n mkX_f mkX_d mkX_r nv0_at fz0_at evQ_dr evP_W evW_nil evW_cons evW_guard okW_eq tame_none tame_new tame_write wb_none wb_new wb_write okU_some offW_none offW_some touchOf V.noRef V.noRefL Option.isSome_some Option.isSome_none mild_none mild_new Option.getD_some Option.getD_none evQ_seq evQ_region evQ_block evQ_cond evQ_ret evQ_skip evQ_exit evO_cons evO_nil evO_guard freezeL_nil oS_some oS_none oS_ite oS_ite' oB_bool oI_true oI_false oE_normal oE_exit oE_ret bQ_normal bQ_ret bQ_exit lQ_normal lQ_ret lQ_exit List.zipIdx_cons List.zipIdx_nil List.map_cons List.map_nil evalOp opd_const opd_tmp opd_func ofC_int ofC_bool ofC_str ofC_nil app_none app_new app_write app_change putE_some putE_none setA_cons setA_nil setH_cons setH_nil mapA_cons mapA_nil look_cons look_nil e_mk h_mk drop_nil drop_mk keep_mk dstOk_some dstOk_none guardT_eq true_and and_true Bool.not_false Bool.not_true selB_true selB_false mem_nil mem_cons kpL_nil kpL_cons drL_nil drL_cons closed_mk V.refsIn V.refsInL Blk.refsIn List.all_cons List.all_nil lenV bin_add bin_sub bin_mul bin_quo bin_rem bin_eql bin_neq bin_lss bin_leq bin_gtr bin_geq un_neg un_not post_ret post_normal St.init Bool.false_eq_true List.length_map Bool.or_false Bool.or_true Bool.false_or Bool.true_or beq_self_eq_true Option.map_some Option.map_none Option.bind_some List.getElem?_cons_zero List.getElem?_cons_succ scalar stor isAggV V.cells List.cons_append List.nil_append if_true if_false wrap_of callV V.dataL V.data Bool.and_true Bool.true_and fresh names V.ren V.renL retV resV packL packV packC getBlks wrapR subV putV decide_true decide_false TK.agg List.length_cons List.length_nil List.take_succ_cons List.take_zero List.drop_succ_cons List.drop_zero List.take_nil List.drop_nil Nat.zero_add Nat.add_zero List.append_nil List.getElem?_nil elemsV ro ro0 ro1 roC ty2 ty3 ty4 ty5 ty6 ty7 ty8 ty9 ty10 ty11 ty12 ty13 ty14 ty18 ty19 ty21 ty24 ty25 ty33 ty34 ty35 ty36 ty41 ty42 ty43 ty45 ty46 ty53 ty63 ty64 ty69 ty74 ty77 ty78 ty96 ty98 ty108 ty115 ty142 ty143 ty148 ty149 ty152 ty153 ty154 ty155 eqs46 eqs64 eqs78
def isTF : List V → Option (V × List Blk)
  | [.int .i64 x] => some (.bool (decide (0 ≤ x ∧ x ≤ 292193)), [])
  | _ => none
theorem isTF_eq (x : Int) : isTF [.int .i64 x] = some (.bool (decide (0 ≤ x ∧ x ≤ 292193)), []) := rfl
theorem tis_snd {J : World → Prop} (hJ : Stable J) : Snd Try.prog J 55 isTF := by
  intro args r bs h
  unfold isTF at h
  split at h
  · rename_i x
    obtain ⟨rfl, rfl⟩ := some_pair h
    refine evFn (l := []) (nv := nv0) (fz := fz0) (dr := dr55) (dd := dd55) (lam := []) trivial hJ trivial Try.func55 rfl rfl (Nat.le_of_ble_eq_true rfl) (Nat.le_of_ble_eq_true rfl) drOk55 ?_
    dsimp only [Try.f55, dr55, dd55, Option.getD_some]
    refine ev_start ?_
    by_cases h1 : 0 ≤ x <;> by_cases h2 : x ≤ 292193 <;> simp (disch := omega) only [h1, h2, and_self, and_true, and_false, go_sem, Int.reduceEq, Int.reduceLT, Int.reduceLE, Int.reduceNeg, Nat.reduceAdd, Nat.reduceLT, Nat.reduceEqDiff, Nat.reduceMul, Nat.reduceLeDiff, reduceIte, Nat.reduceBEq, reduceCtorEq, evP_D, evD_guard, evD_cons, evD_zero, evD_nil]
  · cases h
theorem tday_snd {J : World → Prop} (hJ : Stable J) : Snd Try.prog J 24 isTF := by
  intro args r bs h
  unfold isTF at h
  split at h
  · rename_i x
    obtain ⟨rfl, rfl⟩ := some_pair h
    refine evFn (l := [(60, withinF)]) (nv := nv0) (fz := fz0) (dr := dr24) (dd := dd24) (lam := []) ⟨within_snd hJ, trivial⟩ hJ trivial Try.func24 rfl rfl (Nat.le_of_ble_eq_true rfl) (Nat.le_of_ble_eq_true rfl) drOk24 ?_
    dsimp only [Try.f24, dr24, dd24, Option.getD_some]
    refine ev_start ?_
    simp (disch := omega) only [withinF_eq, go_sem, Int.reduceEq, Int.reduceLT, Int.reduceLE, Int.reduceNeg, Nat.reduceAdd, Nat.reduceLT, Nat.reduceEqDiff, Nat.reduceMul, Nat.reduceLeDiff, reduceIte, Nat.reduceBEq, reduceCtorEq, evP_D, evD_guard, evD_cons, evD_zero, evD_nil]
  · cases h
theorem noBad {l : List It} (h : ∀ i, i < l.length → itBad (dy l i, am l i) = false) : l.any itBad = false := by
  rw [List.any_eq_false]
  intro x hx
  obtain ⟨i, hi, rfl⟩ := List.mem_iff_getElem.1 hx
  have := h i hi
  have e := it_get hi
  rw [List.getElem?_eq_getElem hi] at e
  simp only [Option.some.injEq] at e
  rw [e, this]
  simp
theorem anyBad {l : List It} {k : Nat} (hk : k < l.length) (h : itBad (dy l k, am l k) = true) : l.any itBad = true := List.any_eq_true.2 ⟨_, List.mem_of_getElem? (it_get hk), h⟩
theorem achk_sound {J : World → Prop} (hJ : Stable J) (l : List It) : SoundAt Try.prog J 29 [.row 2 (l.map itV)] (.int .i64 (itE l)) [] := by
  refine SoundAt.row 0 rfl (callOk Try.func29 rfl rfl) fun hlen => ?_
  simp only [maxLen, List.length_map] at hlen
  refine evFn (l := [(55, isTF)]) (nv := nv0) (fz := fz0) (dr := dr29) (dd := dd29) (lam := []) ⟨tis_snd hJ, trivial⟩ hJ trivial Try.func29 rfl rfl (Nat.le_of_ble_eq_true rfl) (Nat.le_of_ble_eq_true rfl) drOk29 ?_
  dsimp only [Try.f29, dr29, dd29, Option.getD_some]
  refine ev_start ?_
  by_cases h3 : 40 < l.length
  · have h3' : (40 : Int) < l.length := by omega
    have e : itE l = 2 := by unfold itE; rw [if_pos h3]
    simp (disch := omega) only [h3', e, List.length_map, go_sem, Int.reduceEq, Int.reduceLT, Int.reduceLE, Int.reduceNeg, Nat.reduceAdd, Nat.reduceLT, Nat.reduceEqDiff, Nat.reduceMul, Nat.reduceLeDiff, reduceIte, Nat.reduceBEq, reduceCtorEq, evP_D, evD_guard, evD_cons, evD_zero, evD_nil]
  have h3' : ¬ (40 : Int) < l.length := by omega
  simp (disch := omega) only [h3', List.length_map, go_sem, Int.reduceEq, Int.reduceLT, Int.reduceLE, Int.reduceNeg, Nat.reduceAdd, Nat.reduceLT, Nat.reduceEqDiff, Nat.reduceMul, Nat.reduceLeDiff, reduceIte, Nat.reduceBEq, reduceCtorEq, evP_D, evD_guard, evD_cons, evD_zero, evD_nil]
  refine evQ_loop [8, 9, 10] [] (fun σ => ∃ (k : Nat), (k ≤ l.length ∧ ∀ i, i < k → itBad (dy l i, am l i) = false) ∧ σ = ⟨[(8, .row 2 (l.map itV)), (9, .int .i64 l.length), (10, .int .i64 k)], []⟩)
    (fun σ => l.length - (match Ev.look 10 σ.env with | some (.int _ n) => n.toNat | _ => 0)) ?_ ?_
  · simp only [go_sem, Int.reduceEq, Int.reduceLT, Int.reduceLE, Int.reduceNeg, Nat.reduceAdd, Nat.reduceLT, Nat.reduceEqDiff, Nat.reduceMul, Nat.reduceLeDiff, reduceIte, Nat.reduceBEq, reduceCtorEq, evP_D, evD_guard, evD_cons, evD_zero, evD_nil]
    exact ⟨0, ⟨Nat.zero_le _, fun i h => by omega⟩, rfl⟩
  · rintro σ ⟨k, ⟨hk, hall⟩, rfl⟩
    by_cases hlt : k < l.length
    · have hlt' : (k : Int) < l.length := by omega
      have hg := itV_get hlt
      cases hb : itBad (dy l k, am l k) with
      | true =>
        have e : itE l = 1 := by unfold itE; rw [if_neg h3, if_pos (anyBad hlt hb)]
        by_cases c1 : 0 ≤ dy l k ∧ dy l k ≤ 292193
        · by_cases c2 : am l k < 1
          · simp (disch := (first | omega | assumption)) only [hlt', idx_nat, List.length_map, hg, isTF_eq, c1, c2, and_self, e, go_sem, Int.reduceEq, Int.reduceLT, Int.reduceLE, Int.reduceNeg, Nat.reduceAdd, Nat.reduceLT, Nat.reduceEqDiff, Nat.reduceMul, Nat.reduceLeDiff, reduceIte, Nat.reduceBEq, reduceCtorEq, evP_D, evD_guard, evD_cons, evD_zero, evD_nil]
          · have c3 : 1000000000000 < am l k := by simp [itBad] at hb; omega
            simp (disch := (first | omega | assumption)) only [hlt', idx_nat, List.length_map, hg, isTF_eq, c1, c2, c3, and_self, e, go_sem, Int.reduceEq, Int.reduceLT, Int.reduceLE, Int.reduceNeg, Nat.reduceAdd, Nat.reduceLT, Nat.reduceEqDiff, Nat.reduceMul, Nat.reduceLeDiff, reduceIte, Nat.reduceBEq, reduceCtorEq, evP_D, evD_guard, evD_cons, evD_zero, evD_nil]
        · have c1' : decide (0 ≤ dy l k ∧ dy l k ≤ 292193) = false := decide_eq_false c1
          simp (disch := (first | omega | assumption)) only [hlt', idx_nat, List.length_map, hg, isTF_eq, c1', e, go_sem, Int.reduceEq, Int.reduceLT, Int.reduceLE, Int.reduceNeg, Nat.reduceAdd, Nat.reduceLT, Nat.reduceEqDiff, Nat.reduceMul, Nat.reduceLeDiff, reduceIte, Nat.reduceBEq, reduceCtorEq, evP_D, evD_guard, evD_cons, evD_zero, evD_nil]
      | false =>
        have c1 : 0 ≤ dy l k ∧ dy l k ≤ 292193 := by simp [itBad] at hb; omega
        have c2 : ¬ am l k < 1 := by simp [itBad] at hb; omega
        have c3 : ¬ 1000000000000 < am l k := by simp [itBad] at hb; omega
        simp (disch := (first | omega | assumption)) only [hlt', idx_nat, List.length_map, hg, isTF_eq, c1, c2, c3, and_self, go_sem, Int.reduceEq, Int.reduceLT, Int.reduceLE, Int.reduceNeg, Nat.reduceAdd, Nat.reduceLT, Nat.reduceEqDiff, Nat.reduceMul, Nat.reduceLeDiff, reduceIte, Nat.reduceBEq, reduceCtorEq, evP_D, evD_guard, evD_cons, evD_zero, evD_nil]
        exact ⟨⟨k + 1, ⟨hlt, fun i hi => by
          by_cases e : i = k
          · rw [e]; exact hb
          · exact hall i (by omega)⟩, rfl⟩, by
          have e3 : ((k : Int) + 1).toNat = k + 1 := by omega
          rw [e3, Int.toNat_natCast]; omega⟩
    · have hk' : k = l.length := by omega
      subst hk'
      have e : itE l = 0 := by unfold itE; rw [if_neg h3, noBad hall]; rfl
      have hlt' : ¬ ((l.length : Int) < l.length) := by omega
      simp (disch := (first | omega | assumption)) only [hlt', e, go_sem, Int.reduceEq, Int.reduceLT, Int.reduceLE, Int.reduceNeg, Nat.reduceAdd, Nat.reduceLT, Nat.reduceEqDiff, Nat.reduceMul, Nat.reduceLeDiff, reduceIte, Nat.reduceBEq, reduceCtorEq, evP_D, evD_guard, evD_cons, evD_zero, evD_nil]
theorem ritems_sound {J : World → Prop} (hJ : Stable J) (l : List It) : SoundAt Try.prog J 23 [.row 2 (l.map itV)] (.int .i64 (itE l)) [] := by
  refine SoundAt.row 0 rfl (callOk Try.func23 rfl rfl) fun hlen => ?_
  simp only [maxLen, List.length_map] at hlen
  refine evFn (l := [(24, isTF), (60, withinF)]) (nv := nv0) (fz := fz0) (dr := dr23) (dd := dd23) (lam := []) ⟨tday_snd hJ, within_snd hJ, trivial⟩ hJ trivial Try.func23 rfl rfl (Nat.le_of_ble_eq_true rfl) (Nat.le_of_ble_eq_true rfl) drOk23 ?_
  dsimp only [Try.f23, dr23, dd23, Option.getD_some]
  refine ev_start ?_
  by_cases h3 : 40 < l.length
  · have h3' : (40 : Int) < l.length := by omega
    have e : itE l = 2 := by unfold itE; rw [if_pos h3]
    simp (disch := omega) only [h3', e, List.length_map, go_sem, Int.reduceEq, Int.reduceLT, Int.reduceLE, Int.reduceNeg, Nat.reduceAdd, Nat.reduceLT, Nat.reduceEqDiff, Nat.reduceMul, Nat.reduceLeDiff, reduceIte, Nat.reduceBEq, reduceCtorEq, evP_D, evD_guard, evD_cons, evD_zero, evD_nil]
  have h3' : ¬ (40 : Int) < l.length := by omega
  simp (disch := omega) only [h3', List.length_map, go_sem, Int.reduceEq, Int.reduceLT, Int.reduceLE, Int.reduceNeg, Nat.reduceAdd, Nat.reduceLT, Nat.reduceEqDiff, Nat.reduceMul, Nat.reduceLeDiff, reduceIte, Nat.reduceBEq, reduceCtorEq, evP_D, evD_guard, evD_cons, evD_zero, evD_nil]
  refine evQ_loop [8, 9, 10] [] (fun σ => ∃ (k : Nat), (k ≤ l.length ∧ ∀ i, i < k → itBad (dy l i, am l i) = false) ∧ σ = ⟨[(8, .row 2 (l.map itV)), (9, .int .i64 l.length), (10, .int .i64 k)], []⟩)
    (fun σ => l.length - (match Ev.look 10 σ.env with | some (.int _ n) => n.toNat | _ => 0)) ?_ ?_
  · simp only [go_sem, Int.reduceEq, Int.reduceLT, Int.reduceLE, Int.reduceNeg, Nat.reduceAdd, Nat.reduceLT, Nat.reduceEqDiff, Nat.reduceMul, Nat.reduceLeDiff, reduceIte, Nat.reduceBEq, reduceCtorEq, evP_D, evD_guard, evD_cons, evD_zero, evD_nil]
    exact ⟨0, ⟨Nat.zero_le _, fun i h => by omega⟩, rfl⟩
  · rintro σ ⟨k, ⟨hk, hall⟩, rfl⟩
    by_cases hlt : k < l.length
    · have hlt' : (k : Int) < l.length := by omega
      have hg := itV_get hlt
      cases hb : itBad (dy l k, am l k) with
      | true =>
        have e : itE l = 1 := by unfold itE; rw [if_neg h3, if_pos (anyBad hlt hb)]
        by_cases c1 : 0 ≤ dy l k ∧ dy l k ≤ 292193
        · have c2 : decide (1 ≤ am l k ∧ am l k ≤ 1000000000000) = false := decide_eq_false (by simp [itBad] at hb; omega)
          simp (disch := (first | omega | assumption)) only [hlt', idx_nat, List.length_map, hg, isTF_eq, withinF_eq, c1, c2, and_self, e, go_sem, Int.reduceEq, Int.reduceLT, Int.reduceLE, Int.reduceNeg, Nat.reduceAdd, Nat.reduceLT, Nat.reduceEqDiff, Nat.reduceMul, Nat.reduceLeDiff, reduceIte, Nat.reduceBEq, reduceCtorEq, evP_D, evD_guard, evD_cons, evD_zero, evD_nil]
        · have c1' : decide (0 ≤ dy l k ∧ dy l k ≤ 292193) = false := decide_eq_false c1
          simp (disch := (first | omega | assumption)) only [hlt', idx_nat, List.length_map, hg, isTF_eq, withinF_eq, c1', e, go_sem, Int.reduceEq, Int.reduceLT, Int.reduceLE, Int.reduceNeg, Nat.reduceAdd, Nat.reduceLT, Nat.reduceEqDiff, Nat.reduceMul, Nat.reduceLeDiff, reduceIte, Nat.reduceBEq, reduceCtorEq, evP_D, evD_guard, evD_cons, evD_zero, evD_nil]
      | false =>
        have c1 : 0 ≤ dy l k ∧ dy l k ≤ 292193 := by simp [itBad] at hb; omega
        have c2 : 1 ≤ am l k ∧ am l k ≤ 1000000000000 := by simp [itBad] at hb; omega
        simp (disch := (first | omega | assumption)) only [hlt', idx_nat, List.length_map, hg, isTF_eq, withinF_eq, c1, c2, and_self, go_sem, Int.reduceEq, Int.reduceLT, Int.reduceLE, Int.reduceNeg, Nat.reduceAdd, Nat.reduceLT, Nat.reduceEqDiff, Nat.reduceMul, Nat.reduceLeDiff, reduceIte, Nat.reduceBEq, reduceCtorEq, evP_D, evD_guard, evD_cons, evD_zero, evD_nil]
        exact ⟨⟨k + 1, ⟨hlt, fun i hi => by
          by_cases e : i = k
          · rw [e]; exact hb
          · exact hall i (by omega)⟩, rfl⟩, by
          have e3 : ((k : Int) + 1).toNat = k + 1 := by omega
          rw [e3, Int.toNat_natCast]; omega⟩
    · have hk' : k = l.length := by omega
      subst hk'
      have e : itE l = 0 := by unfold itE; rw [if_neg h3, noBad hall]; rfl
      have hlt' : ¬ ((l.length : Int) < l.length) := by omega
      simp (disch := (first | omega | assumption)) only [hlt', e, go_sem, Int.reduceEq, Int.reduceLT, Int.reduceLE, Int.reduceNeg, Nat.reduceAdd, Nat.reduceLT, Nat.reduceEqDiff, Nat.reduceMul, Nat.reduceLeDiff, reduceIte, Nat.reduceBEq, reduceCtorEq, evP_D, evD_guard, evD_cons, evD_zero, evD_nil]
/-- the order of the days, as a row -/
noncomputable def ordD (l : List It) : List Nat := (List.range l.length).map (ord (nd l) l.length)
def toI (l : List Nat) : List Int := l.map fun k : Nat => (k : Int)
theorem toI_len (l : List Nat) : (toI l).length = l.length := by simp [toI]
theorem ordD_len (l : List It) : (ordD l).length = l.length := by simp [ordD]
theorem ordD_lt (l : List It) {x : Nat} (h : x ∈ ordD l) : x < l.length := by
  unfold ordD at h
  obtain ⟨k, hk, rfl⟩ := List.mem_map.1 h
  rw [List.mem_range] at hk
  exact ((ord_perm (nd l) l.length).maps (k := k) (by omega)).2
theorem ordD_nodup (l : List It) : (ordD l).Nodup := by
  unfold ordD
  refine List.Pairwise.map _ (fun a b h => ?_) List.nodup_range
  exact fun e => h ((ord_perm (nd l) l.length).inj e)
theorem toI_get {l : List Nat} {k x : Nat} (h : l[k]? = some x) : ((toI l).map (V.int .i64))[k]? = some (.int .i64 (x : Int)) := by
  simp [toI, h]
theorem ord1_sound {J : World → Prop} (hJ : Stable J) {l : List It} (hl : itOk l) (x y : Nat) (hx : x < l.length) (hy : y < l.length) :
    SoundAt Try.prog J 88 [.int .i64 x, .int .i64 y, .rd (.row 2 (l.map itV)) 0] (.int .i64 (dy l x - dy l y)) [] := by
  refine evFn (l := []) (nv := nv0) (fz := fz0) (dr := dr88) (dd := dd88) (lam := []) trivial hJ trivial Try.func88 rfl rfl (Nat.le_of_ble_eq_true rfl) (Nat.le_of_ble_eq_true rfl) drOk88 ?_
  dsimp only [Try.f88, dr88, dd88, Option.getD_some]
  refine ev_start ?_
  have gx := itV_get hx
  have gy := itV_get hy
  have bx := it_bd hl hx
  have bb := it_bd hl hy
  have h40 := hl.1
  simp (disch := (first | omega | assumption)) only [idx_nat, List.length_map, gx, gy, go_sem, Int.reduceEq, Int.reduceLT, Int.reduceLE, Int.reduceNeg, Nat.reduceAdd, Nat.reduceLT, Nat.reduceEqDiff, Nat.reduceMul, Nat.reduceLeDiff, reduceIte, Nat.reduceBEq, reduceCtorEq, evP_D, evD_guard, evD_cons, evD_zero, evD_nil]
def ord1C (l : List It) : List V := [.rd (.row 2 (l.map itV)) 0]
noncomputable def ord1F (l : List It) : List V → Option (V × List Blk)
  | .int .i64 x :: .int .i64 y :: cs => open Classical in if ((0 ≤ x ∧ x < l.length) ∧ 0 ≤ y ∧ y < l.length) ∧ cs = ord1C l then some (.int .i64 (dy l x.toNat - dy l y.toNat), []) else none
  | _ => none
theorem ord1_snd {J : World → Prop} (hJ : Stable J) {l : List It} (hl : itOk l) : Snd Try.prog J 88 (ord1F l) := by
  intro args r bs h
  unfold ord1F at h
  split at h
  · rename_i x y cs
    split at h
    · rename_i hc
      obtain ⟨rfl, rfl⟩ := some_pair h
      obtain ⟨m, rfl⟩ : ∃ m : Nat, x = m := ⟨x.toNat, by omega⟩
      obtain ⟨k, rfl⟩ : ∃ m : Nat, y = m := ⟨y.toNat, by omega⟩
      rw [hc.2, Int.toNat_natCast, Int.toNat_natCast]
      exact ord1_sound hJ hl m k (by omega) (by omega)
    · cases h
  · cases h
theorem ord1F_eq {l : List It} {x y : Int} (hx : 0 ≤ x ∧ x < l.length) (hy : 0 ≤ y ∧ y < l.length) : ord1F l (.int .i64 x :: .int .i64 y :: ord1C l) = some (.int .i64 (dy l x.toNat - dy l y.toNat), []) := by
  simp only [ord1F]
  exact if_pos ⟨⟨hx, hy⟩, trivial⟩
theorem ordD_list (l : List It) : srtL (gtR (nd l)) (idxL l.length) 0 (idxL l.length).length = toI (ordD l) := by
  rw [idx_len, ord_list]
  unfold toI ordD
  rw [List.map_map]
  rfl
theorem order_sound {J : World → Prop} (hJ : Stable J) (l : List It) (hl : itOk l) : SoundAt Try.prog J 59 [.row 2 (l.map itV)] (.vec 0) [.vec 3 1 ((toI (ordD l)).map (V.int .i64))] := by
  refine SoundAt.row 0 rfl (callOk Try.func59 rfl rfl) fun hlen => ?_
  simp only [maxLen, List.length_map] at hlen
  have h40 := hl.1
  have f1 : (0 : Int) ≤ l.length := by omega
  have f2 : (l.length : Int) * 8 ≤ 140737488355328 := by omega
  have f3 : (l.length : Int) ≤ 9223372036854775807 := by omega
  refine evFn (l := []) (nv := nv0) (fz := fz0) (dr := dr59) (dd := dd59) (lam := [(41, false, pickL (Rsrt (fun x => 0 ≤ x ∧ x < l.length) (gtR (nd l)) 88 (ord1C l)))]) trivial hJ ⟨Rsrt_ok hJ 88 (ord1C l) (by rfl) (ord1_snd hJ hl) (c := fun x y => dy l x.toNat - dy l y.toNat) (fun x y hx hy => ord1F_eq hx hy) (fun x y _ _ => by unfold gtR nd; omega) (gtR_swo _) (by decide) (by decide), trivial⟩ Try.func59 rfl rfl (Nat.le_of_ble_eq_true rfl) (Nat.le_of_ble_eq_true rfl) drOk59 ?_
  dsimp only [Try.f59, dr59, dd59, Option.getD_some]
  refine ev_start ?_
  simp (disch := omega) only [makeV, f1, f2, f3, Int.toNat_natCast, List.length_replicate, List.length_map, go_sem, Int.reduceEq, Int.reduceLT, Int.reduceLE, Int.reduceNeg, Nat.reduceAdd, Nat.reduceLT, Nat.reduceEqDiff, Nat.reduceMul, Nat.reduceLeDiff, reduceIte, Nat.reduceBEq, reduceCtorEq, evP_D, evD_guard, evD_cons, evD_zero, evD_nil]
  refine evQ_loop [1, 3, 9, 10] [8, 56] (fun σ => ∃ (k : Nat), k ≤ l.length ∧ σ = ⟨[(1, .ptr 8 0), (3, .vec 56), (9, .int .i64 l.length), (10, .int .i64 k)],
    [(8, .box (.row 2 (l.map itV))), (56, .vec 3 1 ((fillL 0 (fun i : Nat => (i : Int)) l.length k).map (V.int .i64)))]⟩)
    (fun σ => l.length - (match Ev.look 10 σ.env with | some (.int _ n) => n.toNat | _ => 0)) ?_ ?_
  · simp only [go_sem, Int.reduceEq, Int.reduceLT, Int.reduceLE, Int.reduceNeg, Nat.reduceAdd, Nat.reduceLT, Nat.reduceEqDiff, Nat.reduceMul, Nat.reduceLeDiff, reduceIte, Nat.reduceBEq, reduceCtorEq, evP_D, evD_guard, evD_cons, evD_zero, evD_nil]
    exact ⟨0, Nat.zero_le _, by rw [fillL_map, fillL_zero]; rfl⟩
  · rintro σ ⟨k, hk, rfl⟩
    by_cases hlt : k < l.length
    · have hlt' : (k : Int) < l.length := by omega
      have hset := fillL_set (0 : Int) (fun i : Nat => (i : Int)) (n := l.length) (k := k)
      have hset' : ((fillL 0 (fun i : Nat => (i : Int)) l.length k).map (V.int .i64)).set k (.int .i64 k) = (fillL 0 (fun i : Nat => (i : Int)) l.length (k + 1)).map (V.int .i64) := by rw [← hset, List.map_set]
      have hat := fillL_at (0 : Int) (fun i : Nat => (i : Int)) (n := l.length) (k := k) hlt (Nat.lt_irrefl k)
      have hat' := get_map (V.int .i64) _ k _ hat
      simp (disch := (first | omega | assumption)) only [hlt', idx_nat, List.length_map, hat', hset', fillL_len, go_sem, Int.reduceEq, Int.reduceLT, Int.reduceLE, Int.reduceNeg, Nat.reduceAdd, Nat.reduceLT, Nat.reduceEqDiff, Nat.reduceMul, Nat.reduceLeDiff, reduceIte, Nat.reduceBEq, reduceCtorEq, evP_D, evD_guard, evD_cons, evD_zero, evD_nil]
      exact ⟨⟨k + 1, hlt, rfl⟩, by
        have e3 : ((k : Int) + 1).toNat = k + 1 := by omega
        rw [e3, Int.toNat_natCast]; omega⟩
    · have hk' : k = l.length := by omega
      subst hk'
      have hlt' : ¬ ((l.length : Int) < l.length) := by omega
      have hidx : fillL 0 (fun i : Nat => (i : Int)) l.length l.length = idxL l.length := fillL_end _ _ _
      have hsort := Rsrt_eq 88 (ord1C l) (fun x => 0 ≤ x ∧ x < l.length) (gtR (nd l)) (idxL l.length) ⟨by rw [idx_len]; exact h40, fun x hx => by
        unfold idxL at hx
        obtain ⟨y, hy, rfl⟩ := List.mem_map.1 hx
        rw [List.mem_range] at hy
        constructor <;> omega⟩
      rw [ordD_list] at hsort
      simp only [ord1C] at hsort
      simp (disch := (first | omega | assumption)) only [hlt', hidx, hsort, ord1C, List.mapM_cons, List.mapM_nil, Option.bind_eq_bind, Option.pure_def, Option.bind_some, plainI, go_sem, Int.reduceEq, Int.reduceLT, Int.reduceLE, Int.reduceNeg, Nat.reduceAdd, Nat.reduceLT, Nat.reduceEqDiff, Nat.reduceMul, Nat.reduceLeDiff, reduceIte, Nat.reduceBEq, reduceCtorEq, evP_D, evD_guard, evD_cons, evD_zero, evD_nil]
end Go.Proofs.Ytdjdipehfnnhpaa
