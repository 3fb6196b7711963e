/-
  The ties, by taking away and by marks, run by the machine.
-/
import Derived.Test.YtdjdipehfnnhpaaTiF
namespace Go.Proofs.Ytdjdipehfnnhpaa
open Go Go.Ev Go.RowKit Go.Tie Go.Spl Go.Srt
set_option maxHeartbeats 4000000
set_option linter.unusedSimpArgs false
set_option linter.unusedVariables false
attribute [local go_sem] subE partR boundsV ownP sliceW copyV clearV lenM takeV tk1 mapsV mkMapV hintOk lookV updV mapKE keyOk V.key app_lend callW_fn lendV postL_ret postL_normal postT_ret postT_normal takeR St.lent mkX_L bin_eql_vz bin_eql_zv bin_eql_rz bin_eql_zr bin_eql_zz bin_neq_vz bin_neq_zv bin_neq_rz bin_neq_zr bin_neq_zz eqH nilEq nonE plainI gOf_bool gOf_skip g_some g_none Int.ofNat_zero Int.cast_ofNat_Int Bool.false_and Bool.and_false sliceV noBox elemsZ V.scrub V.scrubL Blk.scrub appendV isSlice maxLen_eq leT List.contains_nil List.contains_cons nvL_at fzL_at fillV V.plain V.plainL Blk.plain List.size_toArray mapO_nil mapO_cons Option.isNone_none Option.isNone_some beqT beqF oI_not mkX_e phi_nil phi_cons bin_eql_bool bin_neq_bool bin_eql_agg bin_neq_agg eqV eqFs eqK_int eqK_bool' eqK_str mkX_T mkX_Φ mkX_n mkX_f mkX_d mkX_r nv0_at fz0_at evQ_dr evP_W evW_nil evW_cons evW_guard okW_eq tame_none tame_new tame_write wb_none wb_new wb_write okU_some offW_none offW_some touchOf V.noRef V.noRefL Option.isSome_some Option.isSome_none mild_none mild_new Option.getD_some Option.getD_none evQ_seq evQ_region evQ_block evQ_cond evQ_ret evQ_skip evQ_exit evO_cons evO_nil evO_guard freezeL_nil oS_some oS_none oS_ite oS_ite' oB_bool oI_true oI_false oE_normal oE_exit oE_ret bQ_normal bQ_ret bQ_exit lQ_normal lQ_ret lQ_exit List.zipIdx_cons List.zipIdx_nil List.map_cons List.map_nil evalOp opd_const opd_tmp opd_func ofC_int ofC_bool ofC_str ofC_nil app_none app_new app_write app_change putE_some putE_none setA_cons setA_nil setH_cons setH_nil mapA_cons mapA_nil look_cons look_nil e_mk h_mk drop_nil drop_mk keep_mk dstOk_some dstOk_none guardT_eq true_and and_true Bool.not_false Bool.not_true selB_true selB_false mem_nil mem_cons kpL_nil kpL_cons drL_nil drL_cons closed_mk V.refsIn V.refsInL Blk.refsIn List.all_cons List.all_nil lenV bin_add bin_sub bin_mul bin_quo bin_rem bin_eql bin_neq bin_lss bin_leq bin_gtr bin_geq un_neg un_not post_ret post_normal St.init Bool.false_eq_true List.length_map Bool.or_false Bool.or_true Bool.false_or Bool.true_or beq_self_eq_true Option.map_some Option.map_none Option.bind_some List.getElem?_cons_zero List.getElem?_cons_succ scalar stor isAggV V.cells List.cons_append List.nil_append if_true if_false wrap_of callV V.dataL V.data Bool.and_true Bool.true_and fresh names V.ren V.renL retV resV packL packV packC getBlks wrapR subV putV decide_true decide_false TK.agg List.length_cons List.length_nil List.take_succ_cons List.take_zero List.drop_succ_cons List.drop_zero List.take_nil List.drop_nil Nat.zero_add Nat.add_zero List.append_nil List.getElem?_nil elemsV ro ro0 ro1 roC ty2 ty3 ty4 ty5 ty6 ty7 ty8 ty9 ty10 ty11 ty12 ty13 ty14 ty18 ty19 ty21 ty24 ty25 ty33 ty34 ty35 ty36 ty41 ty42 ty43 ty45 ty46 ty53 ty63 ty64 ty69 ty74 ty77 ty78 ty96 ty98 ty108 ty115 ty142 ty143 ty148 ty149 ty152 ty153 ty154 ty155 eqs46 eqs64 eqs78
def absTF : List V → Option (V × List Blk)
  | [.int .i64 x] => if -1000000 ≤ x ∧ x ≤ 1000000 then some (.int .i64 (if 0 ≤ x then x else -x), []) else none
  | _ => none
theorem absTF_eq {x : Int} (h : -1000000 ≤ x ∧ x ≤ 1000000) : absTF [.int .i64 x] = some (.int .i64 (if 0 ≤ x then x else -x), []) := if_pos h
theorem tabs_snd {J : World → Prop} (hJ : Stable J) : Snd Try.prog J 62 absTF := by
  intro args r bs h
  unfold absTF at h
  split at h
  · rename_i x
    split at h
    · rename_i hc
      obtain ⟨rfl, rfl⟩ := some_pair h
      refine evFn (l := []) (nv := nv0) (fz := fz0) (dr := dr62) (dd := dd62) (lam := []) trivial hJ trivial Try.func62 rfl rfl (Nat.le_of_ble_eq_true rfl) (Nat.le_of_ble_eq_true rfl) drOk62 ?_
      dsimp only [Try.f62, dr62, dd62, Option.getD_some]
      refine ev_start ?_
      have h7 : 0 - x = -x := by omega
      by_cases h1 : 0 ≤ x
      · have h2 : ¬ (-x > x) := by omega
        simp (disch := omega) only [h1, h2, h7, go_sem, Int.reduceEq, Int.reduceLT, Int.reduceLE, Int.reduceNeg, Nat.reduceAdd, Nat.reduceLT, Nat.reduceEqDiff, Nat.reduceMul, Nat.reduceLeDiff, reduceIte, Nat.reduceBEq, reduceCtorEq, evP_D, evD_guard, evD_cons, evD_zero, evD_nil]
      · have h2 : -x > x := by omega
        simp (disch := omega) only [h1, h2, h7, go_sem, Int.reduceEq, Int.reduceLT, Int.reduceLE, Int.reduceNeg, Nat.reduceAdd, Nat.reduceLT, Nat.reduceEqDiff, Nat.reduceMul, Nat.reduceLeDiff, reduceIte, Nat.reduceBEq, reduceCtorEq, evP_D, evD_guard, evD_cons, evD_zero, evD_nil]
    · cases h
  · cases h
theorem sortedx {J : World → Prop} (hJ : Stable J) : ∃ F : List V → Option (V × List Blk), (∀ l : List It, itOk l → F [.row 2 (l.map itV)] = some (.vec 0, [.vec 3 1 ((toI (ordD l)).map (V.int .i64))])) ∧ Snd Try.prog J 61 F := by
  obtain ⟨F, h1, h2⟩ := famz (P := Try.prog) (J := J) (f := 61) (fun x : { l : List It // itOk l } => [.row 2 (x.1.map itV)]) (fun x => (.vec 0, [.vec 3 1 ((toI (ordD x.1)).map (V.int .i64))])) (fun i j h => by
    simp only [List.cons.injEq, V.row.injEq, true_and, and_true] at h
    rw [itV_inj h]) fun x => sorted_sound hJ x.1 x.2
  exact ⟨F, fun l a => h1 ⟨l, a⟩, h2⟩
theorem orderx {J : World → Prop} (hJ : Stable J) : ∃ F : List V → Option (V × List Blk), (∀ l : List It, itOk l → F [.row 2 (l.map itV)] = some (.vec 0, [.vec 3 1 ((toI (ordD l)).map (V.int .i64))])) ∧ Snd Try.prog J 59 F := by
  obtain ⟨F, h1, h2⟩ := famz (P := Try.prog) (J := J) (f := 59) (fun x : { l : List It // itOk l } => [.row 2 (x.1.map itV)]) (fun x => (.vec 0, [.vec 3 1 ((toI (ordD x.1)).map (V.int .i64))])) (fun i j h => by
    simp only [List.cons.injEq, V.row.injEq, true_and, and_true] at h
    rw [itV_inj h]) fun x => order_sound hJ x.1 x.2
  exact ⟨F, fun l a => h1 ⟨l, a⟩, h2⟩
theorem achkx {J : World → Prop} (hJ : Stable J) : ∃ F : List V → Option (V × List Blk), (∀ l : List It, F [.row 2 (l.map itV)] = some (.int .i64 (itE l), [])) ∧ Snd Try.prog J 29 F :=
  famz (P := Try.prog) (J := J) (f := 29) (fun l : List It => [.row 2 (l.map itV)]) (fun l => (.int .i64 (itE l), [])) (fun i j h => by
    simp only [List.cons.injEq, V.row.injEq, true_and, and_true] at h
    rw [itV_inj h]) fun l => achk_sound hJ l
theorem ritemsx {J : World → Prop} (hJ : Stable J) : ∃ F : List V → Option (V × List Blk), (∀ l : List It, F [.row 2 (l.map itV)] = some (.int .i64 (itE l), [])) ∧ Snd Try.prog J 23 F :=
  famz (P := Try.prog) (J := J) (f := 23) (fun l : List It => [.row 2 (l.map itV)]) (fun l => (.int .i64 (itE l), [])) (fun i j h => by
    simp only [List.cons.injEq, V.row.injEq, true_and, and_true] at h
    rw [itV_inj h]) fun l => ritems_sound hJ l
theorem fill_neg (n : Nat) : fillL (0 : Int) (fun _ => -1) n n = List.replicate n (-1) := by
  rw [fillL_end]
  apply List.ext_getElem?
  intro i
  by_cases h : i < n <;> simp [h, List.getElem?_replicate]
/-- what is tied to what -/
noncomputable def tieL (a b : List It) (w : Int) : List Int := tieGo (mt a b w) (ordD a) (ordD b) (List.replicate a.length (-1))
theorem tieGo_drop {m : Nat → Nat → Bool} {A th : List Nat} {out : List Int} {t i : Nat} (h : A[t]? = some i) : tieGo m (A.drop t) th out = tieGo m (i :: A.drop (t + 1)) th out := by
  obtain ⟨ht, rfl⟩ := List.getElem?_eq_some_iff.1 h
  rw [List.drop_eq_getElem_cons ht]
set_option maxHeartbeats 4000000 in
theorem rtie_sound {J : World → Prop} (hJ : Stable J) (a b : List It) (w : Int) (ha : itOk a) (hb : itOk b) (hw : 0 ≤ w ∧ w ≤ 292193) : SoundAt Try.prog J 26 [.row 2 (a.map itV), .row 2 (b.map itV), .int .i64 w] (.vec 0) [.vec 3 1 ((tieL a b w).map (V.int .i64))] := by
  refine SoundAt.row 0 rfl (callOk Try.func26 rfl rfl) fun hlen => ?_
  simp only [maxLen, List.length_map] at hlen
  have h40 := ha.1
  have h40b := hb.1
  obtain ⟨SF, hSF, sSF⟩ := sortedx hJ
  have sa := hSF a ha
  have sb := hSF b hb
  have f1 : (0 : Int) ≤ a.length := by omega
  have f2 : (a.length : Int) * 8 ≤ 140737488355328 := by omega
  have f3 : (a.length : Int) ≤ 9223372036854775807 := by omega
  have lA := ordD_len a
  have lB := ordD_len b
  have iA : ∀ x ∈ ordD a, x < a.length := fun x h => ordD_lt a h
  have iB : ∀ x ∈ ordD b, x < b.length := fun x h => ordD_lt b h
  unfold tieL
  generalize ordD a = A at *
  generalize ordD b = B at *
  refine evFn (l := [(61, SF), (62, absTF)]) (nv := nv0) (fz := fz0) (dr := dr26) (dd := dd26) (lam := [(63, true, pickL Rdel)]) ⟨sSF, tabs_snd hJ, trivial⟩ hJ ⟨Rdel_ok, trivial⟩ Try.func26 rfl rfl (Nat.le_of_ble_eq_true rfl) (Nat.le_of_ble_eq_true rfl) drOk26 ?_
  dsimp only [Try.f26, dr26, dd26, Option.getD_some]
  refine ev_start ?_
  simp (disch := omega) only [makeV, f1, f2, f3, Int.toNat_natCast, List.length_replicate, List.length_map, go_sem, Int.reduceEq, Int.reduceLT, Int.reduceLE, Int.reduceNeg, Nat.reduceAdd, Nat.reduceLT, Nat.reduceEqDiff, Nat.reduceMul, Nat.reduceLeDiff, reduceIte, Nat.reduceBEq, reduceCtorEq, evP_D, evD_guard, evD_cons, evD_zero, evD_nil]
  refine evQ_loop [0, 1, 2, 7, 18, 19] [128] (fun σ => ∃ (k : Nat), k ≤ a.length ∧ σ = ⟨[(0, .row 2 (a.map itV)), (1, .row 2 (b.map itV)), (2, .int .i64 w), (7, .vec 128), (18, .int .i64 a.length), (19, .int .i64 k)],
    [(128, .vec 3 1 ((fillL 0 (fun _ => -1) a.length k).map (V.int .i64)))]⟩)
    (fun σ => a.length - (match Ev.look 19 σ.env with | some (.int _ n) => n.toNat | _ => 0)) ?_ ?_
  · simp only [go_sem, Int.reduceEq, Int.reduceLT, Int.reduceLE, Int.reduceNeg, Nat.reduceAdd, Nat.reduceLT, Nat.reduceEqDiff, Nat.reduceMul, Nat.reduceLeDiff, reduceIte, Nat.reduceBEq, reduceCtorEq, evP_D, evD_guard, evD_cons, evD_zero, evD_nil]
    exact ⟨0, Nat.zero_le _, by rw [fillL_map, fillL_zero]; rfl⟩
  · rintro σ ⟨k, hk, rfl⟩
    by_cases hlt : k < a.length
    · have hlt' : (k : Int) < a.length := by omega
      have hset := fillL_set (0 : Int) (fun _ : Nat => (-1 : Int)) (n := a.length) (k := k)
      have hset' : ((fillL 0 (fun _ : Nat => (-1 : Int)) a.length k).map (V.int .i64)).set k (.int .i64 (-1)) = (fillL 0 (fun _ : Nat => (-1 : Int)) a.length (k + 1)).map (V.int .i64) := by rw [← hset, List.map_set]
      have hat := get_map (V.int .i64) _ k _ (fillL_at (0 : Int) (fun _ : Nat => (-1 : Int)) (n := a.length) (k := k) hlt (Nat.lt_irrefl k))
      simp (disch := (first | omega | assumption)) only [hlt', idx_nat, List.length_map, hat, hset', fillL_len, go_sem, Int.reduceEq, Int.reduceLT, Int.reduceLE, Int.reduceNeg, Nat.reduceAdd, Nat.reduceLT, Nat.reduceEqDiff, Nat.reduceMul, Nat.reduceLeDiff, reduceIte, Nat.reduceBEq, reduceCtorEq, evP_D, evD_guard, evD_cons, evD_zero, evD_nil]
      exact ⟨⟨k + 1, hlt, rfl⟩, by
        have e3 : ((k : Int) + 1).toNat = k + 1 := by omega
        rw [e3, Int.toNat_natCast]; omega⟩
    · have hk' : k = a.length := by omega
      subst hk'
      have hlt' : ¬ ((a.length : Int) < a.length) := by omega
      have lAt := toI_len A
      rw [lA] at lAt
      simp (disch := (first | omega | assumption)) only [hlt', fill_neg, sa, sb, List.length_map, lAt, go_sem, Int.reduceEq, Int.reduceLT, Int.reduceLE, Int.reduceNeg, Nat.reduceAdd, Nat.reduceLT, Nat.reduceEqDiff, Nat.reduceMul, Nat.reduceLeDiff, reduceIte, Nat.reduceBEq, reduceCtorEq, evP_D, evD_guard, evD_cons, evD_zero, evD_nil]
      refine evQ_loop [0, 1, 2, 7, 9, 29, 30, 31] [128, 216, 232] (fun σ => ∃ (t : Nat) (th : List Nat) (out : List Int), (t ≤ a.length ∧ (tieGo (mt a b w) (A.drop t) th out = tieGo (mt a b w) A B (List.replicate a.length (-1))) ∧ out.length = a.length ∧ (∀ x ∈ th, x < b.length) ∧ th.length ≤ 40) ∧
        σ = ⟨[(0, .row 2 (a.map itV)), (1, .row 2 (b.map itV)), (2, .int .i64 w), (7, .vec 128), (9, .vec 216), (29, .vec 232), (30, .int .i64 a.length), (31, .int .i64 t)],
          [(128, .vec 3 1 (out.map (V.int .i64))), (216, .vec 3 1 ((toI th).map (V.int .i64))), (232, .vec 3 1 ((toI A).map (V.int .i64)))]⟩)
        (fun σ => a.length - (match Ev.look 31 σ.env with | some (.int _ n) => n.toNat | _ => 0)) ?_ ?_
      · simp only [go_sem, Int.reduceEq, Int.reduceLT, Int.reduceLE, Int.reduceNeg, Nat.reduceAdd, Nat.reduceLT, Nat.reduceEqDiff, Nat.reduceMul, Nat.reduceLeDiff, reduceIte, Nat.reduceBEq, reduceCtorEq, evP_D, evD_guard, evD_cons, evD_zero, evD_nil]
        exact ⟨0, B, _, ⟨Nat.zero_le _, by rw [List.drop_zero], by simp, iB, by omega⟩, rfl⟩
      · rintro σ ⟨t, th, out, ⟨ht, hgo, hout, hth, hth40⟩, rfl⟩
        have lth := toI_len th
        have hms : a.length - ((t : Int) + 1).toNat < a.length - (t : Int).toNat ∨ a.length ≤ t := by
          have e3 : ((t : Int) + 1).toNat = t + 1 := by omega
          rw [e3, Int.toNat_natCast]; omega
        by_cases htl : t < a.length
        · have htl' : (t : Int) < a.length := by omega
          have hms := hms.resolve_right (by omega)
          obtain ⟨i, hi⟩ : ∃ i, A[t]? = some i := ⟨_, List.getElem?_eq_getElem (by omega)⟩
          have hia := iA i (List.mem_of_getElem? hi)
          have hig := toI_get hi
          have hai := itV_get hia
          have bi := it_bd ha hia
          rw [tieGo_drop hi] at hgo
          simp (disch := (first | omega | assumption)) only [htl', idx_nat, List.length_map, hig, lth, lAt, go_sem, Int.reduceEq, Int.reduceLT, Int.reduceLE, Int.reduceNeg, Nat.reduceAdd, Nat.reduceLT, Nat.reduceEqDiff, Nat.reduceMul, Nat.reduceLeDiff, reduceIte, Nat.reduceBEq, reduceCtorEq, evP_D, evD_guard, evD_cons, evD_zero, evD_nil]
          refine evQ_loop [0, 1, 2, 7, 9, 11, 29, 30, 31, 35, 36, 37] [128, 216, 232] (fun σ => ∃ (s : Nat), (s ≤ th.length ∧ ∀ j x, j < s → th[j]? = some x → mt a b w i x = false) ∧
            σ = ⟨[(0, .row 2 (a.map itV)), (1, .row 2 (b.map itV)), (2, .int .i64 w), (7, .vec 128), (9, .vec 216), (11, .int .i64 i), (29, .vec 232), (30, .int .i64 a.length), (31, .int .i64 t), (35, .vec 216), (36, .int .i64 th.length), (37, .int .i64 s)],
              [(128, .vec 3 1 (out.map (V.int .i64))), (216, .vec 3 1 ((toI th).map (V.int .i64))), (232, .vec 3 1 ((toI A).map (V.int .i64)))]⟩)
            (fun σ => th.length - (match Ev.look 37 σ.env with | some (.int _ n) => n.toNat | _ => 0)) ?_ ?_
          · simp only [go_sem, Int.reduceEq, Int.reduceLT, Int.reduceLE, Int.reduceNeg, Nat.reduceAdd, Nat.reduceLT, Nat.reduceEqDiff, Nat.reduceMul, Nat.reduceLeDiff, reduceIte, Nat.reduceBEq, reduceCtorEq, evP_D, evD_guard, evD_cons, evD_zero, evD_nil]
            exact ⟨0, ⟨Nat.zero_le _, fun j x h => by omega⟩, rfl⟩
          · rintro σ ⟨s, ⟨hs, hall⟩, rfl⟩
            by_cases hsl : s < th.length
            · have hsl' : (s : Int) < th.length := by omega
              obtain ⟨x, hx⟩ : ∃ x, th[s]? = some x := ⟨_, List.getElem?_eq_getElem hsl⟩
              have hxb := hth x (List.mem_of_getElem? hx)
              have hxg := toI_get hx
              have hbx := itV_get hxb
              have bx := it_bd hb hxb
              have hab := absTF_eq (x := dy b x - dy a i) (by omega)
              have hms2 : th.length - ((s : Int) + 1).toNat < th.length - (s : Int).toNat := by
                have e3 : ((s : Int) + 1).toNat = s + 1 := by omega
                rw [e3, Int.toNat_natCast]; omega
              have hnx : mt a b w i x = false → ∀ j y, j < s + 1 → th[j]? = some y → mt a b w i y = false := fun hf j y hj hy => by
                by_cases e : j = s
                · subst e; rw [hx] at hy; cases hy; exact hf
                · exact hall j y (by omega) hy
              by_cases hamt : am b x = am a i
              · obtain ⟨D, hD⟩ : ∃ D, D = (if 0 ≤ dy b x - dy a i then dy b x - dy a i else -(dy b x - dy a i)) := ⟨_, rfl⟩
                rw [← hD] at hab
                by_cases hDw : D ≤ w
                · have hm : mt a b w i x = true := decide_eq_true (by
                    refine ⟨hamt.symm, ?_⟩
                    split at hD <;> omega)
                  rw [away_some hx hm hall] at hgo
                  have hdel := Rdel_eq (toI th) s (by rw [lth]; exact hsl)
                  have e4 : (toI th).take s ++ (toI th).drop (s + 1) = toI (th.take s ++ th.drop (s + 1)) := by simp [toI]
                  rw [e4] at hdel
                  obtain ⟨z, hz⟩ : ∃ z, out[i]? = some z := ⟨_, List.getElem?_eq_getElem (by omega)⟩
                  have hz' := get_map (V.int .i64) out i z hz
                  have hset : (out.map (V.int .i64)).set i (.int .i64 (x : Int)) = (out.set i (x : Int)).map (V.int .i64) := by rw [List.map_set]
                  clear hD
                  simp (disch := (first | omega | assumption)) only [hsl', idx_nat, List.length_map, hxg, lth, hai, hbx, hamt, hab, hDw, hz', hset, hdel, hout, plainI, go_sem, Int.reduceEq, Int.reduceLT, Int.reduceLE, Int.reduceNeg, Nat.reduceAdd, Nat.reduceLT, Nat.reduceEqDiff, Nat.reduceMul, Nat.reduceLeDiff, reduceIte, Nat.reduceBEq, reduceCtorEq, evP_D, evD_guard, evD_cons, evD_zero, evD_nil]
                  exact ⟨⟨t + 1, _, _, ⟨htl, hgo, by simpa using hout, fun y hy => by
                    rcases List.mem_append.1 hy with hy | hy
                    · exact hth y (List.mem_of_mem_take hy)
                    · exact hth y (List.mem_of_mem_drop hy), by simp only [List.length_append, List.length_take, List.length_drop]; omega⟩, rfl⟩, hms⟩
                · have hm : mt a b w i x = false := decide_eq_false (by
                    rintro ⟨_, h1, h2⟩
                    split at hD <;> omega)
                  clear hD
                  simp (disch := (first | omega | assumption)) only [hsl', idx_nat, List.length_map, hxg, lth, hai, hbx, hamt, hab, hDw, go_sem, Int.reduceEq, Int.reduceLT, Int.reduceLE, Int.reduceNeg, Nat.reduceAdd, Nat.reduceLT, Nat.reduceEqDiff, Nat.reduceMul, Nat.reduceLeDiff, reduceIte, Nat.reduceBEq, reduceCtorEq, evP_D, evD_guard, evD_cons, evD_zero, evD_nil]
                  exact ⟨⟨s + 1, ⟨hsl, hnx hm⟩, rfl⟩, hms2⟩
              · have hm : mt a b w i x = false := decide_eq_false (by rintro ⟨h, _⟩; exact hamt h.symm)
                simp (disch := (first | omega | assumption)) only [hsl', idx_nat, List.length_map, hxg, lth, hai, hbx, hamt, go_sem, Int.reduceEq, Int.reduceLT, Int.reduceLE, Int.reduceNeg, Nat.reduceAdd, Nat.reduceLT, Nat.reduceEqDiff, Nat.reduceMul, Nat.reduceLeDiff, reduceIte, Nat.reduceBEq, reduceCtorEq, evP_D, evD_guard, evD_cons, evD_zero, evD_nil]
                exact ⟨⟨s + 1, ⟨hsl, hnx hm⟩, rfl⟩, hms2⟩
            · have hs' : s = th.length := by omega
              subst hs'
              have hsl' : ¬ ((th.length : Int) < th.length) := by omega
              rw [away_none hall] at hgo
              simp (disch := (first | omega | assumption)) only [hsl', go_sem, Int.reduceEq, Int.reduceLT, Int.reduceLE, Int.reduceNeg, Nat.reduceAdd, Nat.reduceLT, Nat.reduceEqDiff, Nat.reduceMul, Nat.reduceLeDiff, reduceIte, Nat.reduceBEq, reduceCtorEq, evP_D, evD_guard, evD_cons, evD_zero, evD_nil]
              exact ⟨⟨t + 1, th, out, ⟨htl, hgo, hout, hth, hth40⟩, rfl⟩, hms⟩
        · have ht' : t = a.length := by omega
          subst ht'
          have htl' : ¬ ((a.length : Int) < a.length) := by omega
          rw [List.drop_of_length_le (by omega), tieGo] at hgo
          simp (disch := (first | omega | assumption)) only [htl', hgo, go_sem, Int.reduceEq, Int.reduceLT, Int.reduceLE, Int.reduceNeg, Nat.reduceAdd, Nat.reduceLT, Nat.reduceEqDiff, Nat.reduceMul, Nat.reduceLeDiff, reduceIte, Nat.reduceBEq, reduceCtorEq, evP_D, evD_guard, evD_cons, evD_zero, evD_nil]
end Go.Proofs.Ytdjdipehfnnhpaa
