/-
  Books, run by the machine: whether two are the same.
-/
import Derived.Test.YtdjdipehfnnhpaaDoorBkI
namespace Go.Proofs.YtdjdipehfnnhpaaDoor
open Go Go.Ev Go.RowKit Go.Acc
set_option maxHeartbeats 4000000
set_option linter.unusedSimpArgs false
set_option linter.unusedVariables false
attribute [local go_sem] lenM takeV tk1 mapsV mkMapV hintOk lookV updV mapKE keyOk V.key app_lend callW_fn lendV postL_ret postL_normal St.lent mkX_L bin_eql_vz bin_eql_zv bin_eql_rz bin_eql_zr bin_eql_zz bin_neq_vz bin_neq_zv bin_neq_rz bin_neq_zr bin_neq_zz eqH nilEq nonE plainI gOf_bool gOf_skip g_some g_none Int.ofNat_zero Int.cast_ofNat_Int Bool.false_and Bool.and_false sliceV noBox elemsZ V.scrub V.scrubL Blk.scrub appendV isSlice maxLen_eq leT List.contains_nil List.contains_cons nvL_at fzL_at fillV V.plain V.plainL Blk.plain List.size_toArray mapO_nil mapO_cons Option.isNone_none Option.isNone_some beqT beqF oI_not mkX_e phi_nil phi_cons bin_eql_bool bin_neq_bool bin_eql_agg bin_neq_agg eqV eqFs eqK_int eqK_bool' eqK_str mkX_T mkX_Φ mkX_n mkX_f mkX_d mkX_r nv0_at fz0_at evQ_dr evP_W evW_nil evW_cons evW_guard okW_eq tame_none tame_new tame_write wb_none wb_new wb_write okU_some offW_none offW_some touchOf V.noRef V.noRefL Option.isSome_some Option.isSome_none mild_none mild_new Option.getD_some Option.getD_none evQ_seq evQ_region evQ_block evQ_cond evQ_ret evQ_skip evQ_exit evO_cons evO_nil evO_guard freezeL_nil oS_some oS_none oS_ite oS_ite' oB_bool oI_true oI_false oE_normal oE_exit oE_ret bQ_normal bQ_ret bQ_exit lQ_normal lQ_ret lQ_exit List.zipIdx_cons List.zipIdx_nil List.map_cons List.map_nil evalOp opd_const opd_tmp opd_func ofC_int ofC_bool ofC_str ofC_nil app_none app_new app_write app_change putE_some putE_none setA_cons setA_nil setH_cons setH_nil mapA_cons mapA_nil look_cons look_nil e_mk h_mk drop_nil drop_mk keep_mk dstOk_some dstOk_none guardT_eq true_and and_true Bool.not_false Bool.not_true selB_true selB_false mem_nil mem_cons kpL_nil kpL_cons drL_nil drL_cons closed_mk V.refsIn V.refsInL Blk.refsIn List.all_cons List.all_nil lenV bin_add bin_sub bin_mul bin_quo bin_rem bin_eql bin_neq bin_lss bin_leq bin_gtr bin_geq un_neg un_not post_ret post_normal St.init Bool.false_eq_true List.length_map Bool.or_false Bool.or_true Bool.false_or Bool.true_or beq_self_eq_true Option.map_some Option.map_none Option.bind_some List.getElem?_cons_zero List.getElem?_cons_succ scalar stor isAggV V.cells List.cons_append List.nil_append if_true if_false wrap_of callV V.dataL V.data Bool.and_true Bool.true_and fresh names V.ren V.renL retV resV packL packV packC getBlks wrapR subV putV decide_true decide_false TK.agg List.length_cons List.length_nil List.take_succ_cons List.take_zero List.drop_succ_cons List.drop_zero List.take_nil List.drop_nil Nat.zero_add Nat.add_zero List.append_nil List.getElem?_nil elemsV ro ro0 ro1 roC ty2 ty3 ty4 ty5 ty6 ty7 ty8 ty9 ty10 ty11 ty12 ty13 ty14 ty18 ty19 ty21 ty24 ty25 ty28 ty29 ty30 ty31 ty35 ty36 ty37 ty45 ty50 ty51 ty71 ty75 ty79 ty80 ty84 ty91 ty92 ty98 ty99 ty109 ty114 ty129 ty134 ty146 ty158 ty159 ty160 ty161 ty165 ty166 ty171 ty172 ty175 ty176 ty177 ty178 eqs51 eqs80 eqs92 eqs99
def unEn : List V → Option (List En)
  | [] => some []
  | .agg [.str k, .int .i64 d, .row 2 es] :: r => match unAc es, unEn r with
    | some l, some E => some ((k, d, l) :: E)
    | _, _ => none
  | _ => none
theorem unEn_map : ∀ E : List En, unEn (E.map enW) = some E
  | [] => rfl
  | (k, d, l) :: E => by simp only [List.map_cons, enW, unEn, unAc_map]; rw [show unEn (List.map enW E) = some E from unEn_map E]
theorem unEn_eq : ∀ {es : List V} {E : List En}, unEn es = some E → es = E.map enW
  | [], E, h => by simp only [unEn, Option.some.injEq] at h; subst h; rfl
  | v :: es, E, h => by
    unfold unEn at h
    split at h
    · rename_i heq; cases heq
    · rename_i k d fs r heq
      cases heq
      split at h
      · rename_i l E' h1 h2
        simp only [Option.some.injEq] at h
        subst h
        rw [unEn_eq h2, unAc_eq h1]
        rfl
      · cases h
    · cases h
/-- entries as a value: a row, or none -/
def rowEn : V → Option (List En)
  | .row 3 es => unEn es
  | .zero => some []
  | _ => none
theorem rowEn_row (E : List En) : rowEn (.row 3 (E.map enW)) = some E := unEn_map E
theorem rowEn_rel {L : V} {E : List En} (h : rowEn L = some E) {w : World} {ok : Nat → Prop} {val : Value} (hv : RelD w ok L val) : RelD w ok (.row 3 (E.map enW)) val := by
  unfold rowEn at h
  split at h
  · rw [← unEn_eq h]; exact hv
  · simp only [Option.some.injEq] at h
    subst h
    cases hv
    exact .nil _ _
  · cases h
theorem eqA_sound {J : World → Prop} (hJ : Stable J) (xs : List (ByteArray × Int)) : SoundAt Tryd.prog J 112 [.row 2 (xs.map acV), .row 2 (xs.map acV)] (.bool true) [] := by
  refine SoundAt.row 0 rfl (callOk Tryd.func112 rfl rfl) fun hx => ?_
  simp only [maxLen, List.length_map] at hx
  refine evFn (l := []) (nv := nv0) (fz := fz0) (dr := dr112) (dd := dd112) (lam := []) trivial hJ trivial Tryd.func112 rfl rfl (Nat.le_of_ble_eq_true rfl) (Nat.le_of_ble_eq_true rfl) drOk112 ?_
  dsimp only [Tryd.f112, dr112, dd112, Option.getD_some]
  refine ev_start ?_
  simp (disch := omega) only [go_sem, Int.reduceEq, Int.reduceLT, Int.reduceLE, Int.reduceNeg, Nat.reduceAdd, Nat.reduceLT, Nat.reduceEqDiff, Nat.reduceMul, Nat.reduceLeDiff, reduceIte, Nat.reduceBEq, reduceCtorEq, evP_D, evD_guard, evD_cons, evD_zero, evD_nil]
  refine evQ_loop [0, 1, 12, 13] [] (fun σ => ∃ k : Nat, k ≤ xs.length ∧ σ = ⟨[(0, .row 2 (xs.map acV)), (1, .row 2 (xs.map acV)), (12, .int .i64 xs.length), (13, .int .i64 k)], []⟩) (fun σ => xs.length - (match Ev.look 13 σ.env with | some (.int _ n) => n.toNat | _ => 0)) ?_ ?_
  · simp only [go_sem, Int.reduceEq, Int.reduceLT, Int.reduceLE, Int.reduceNeg, Nat.reduceAdd, Nat.reduceLT, Nat.reduceEqDiff, Nat.reduceMul, Nat.reduceLeDiff, reduceIte, Nat.reduceBEq, reduceCtorEq, evP_D, evD_guard, evD_cons, evD_zero, evD_nil]
    exact ⟨0, Nat.zero_le _, rfl⟩
  · rintro σ ⟨k, hk, rfl⟩
    by_cases hlt : k < xs.length
    · have hlt' : (k : Int) < xs.length := by omega
      obtain ⟨⟨c, n⟩, hcn⟩ : ∃ p, xs[k]? = some p := ⟨_, List.getElem?_eq_getElem hlt⟩
      have g1 := acV_get hcn
      simp (disch := (first | omega | assumption)) only [hlt', idx_nat, List.length_map, g1, str_eq, decide_true, go_sem, Int.reduceEq, Int.reduceLT, Int.reduceLE, Int.reduceNeg, Nat.reduceAdd, Nat.reduceLT, Nat.reduceEqDiff, Nat.reduceMul, Nat.reduceLeDiff, reduceIte, Nat.reduceBEq, reduceCtorEq, evP_D, evD_guard, evD_cons, evD_zero, evD_nil]
      exact ⟨⟨k + 1, hlt, rfl⟩, by
        have e3 : ((k : Int) + 1).toNat = k + 1 := by omega
        rw [e3, Int.toNat_natCast]; exact Nat.sub_lt_sub_left hlt (Nat.lt_succ_self k)⟩
    · have hlt' : ¬ ((k : Int) < xs.length) := by omega
      simp (disch := (first | omega | assumption)) only [hlt', go_sem, Int.reduceEq, Int.reduceLT, Int.reduceLE, Int.reduceNeg, Nat.reduceAdd, Nat.reduceLT, Nat.reduceEqDiff, Nat.reduceMul, Nat.reduceLeDiff, reduceIte, Nat.reduceBEq, reduceCtorEq, evP_D, evD_guard, evD_cons, evD_zero, evD_nil]
def eqAF : List V → Option (V × List Blk)
  | [x, y] => match rowAc x, rowAc y with
    | some xs, some ys => if xs = ys then some (.bool true, []) else none
    | _, _ => none
  | _ => none
theorem eqAF_eq {x y : V} {l : List (ByteArray × Int)} (hx : rowAc x = some l) (hy : rowAc y = some l) : eqAF [x, y] = some (.bool true, []) := by
  simp only [eqAF, hx, hy, if_true]
theorem eqA_snd {J : World → Prop} (hJ : Stable J) : Snd Tryd.prog J 112 eqAF := by
  intro args r bs h
  unfold eqAF at h
  split at h
  · rename_i x y
    split at h
    · rename_i xs ys hx hy
      split at h
      · rename_i hxy
        subst hxy
        obtain ⟨rfl, rfl⟩ := some_pair h
        exact sound_by (eqA_sound hJ xs) rfl fun w ok j c v hc hv => by
          match j with
          | 0 => simp at hc; subst hc; exact ⟨_, rfl, rowAc_rel hx hv⟩
          | 1 => simp at hc; subst hc; exact ⟨_, rfl, rowAc_rel hy hv⟩
          | j + 2 => simp at hc
      · cases h
    · cases h
  · cases h
theorem eqF_sound {J : World → Prop} (hJ : Stable J) (E : List En) : SoundAt Tryd.prog J 46 [.row 3 (E.map enW), .row 3 (E.map enW), .fn 31 []] (.bool true) [] := by
  refine SoundAt.row 0 rfl (callOk Tryd.func46 rfl rfl) fun hx => ?_
  simp only [maxLen, List.length_map] at hx
  refine evFn (l := [(31, sameF)]) (nv := nv0) (fz := fz0) (dr := dr46) (dd := dd46) (lam := []) ⟨same_snd hJ, trivial⟩ hJ trivial Tryd.func46 rfl rfl (Nat.le_of_ble_eq_true rfl) (Nat.le_of_ble_eq_true rfl) drOk46 ?_
  dsimp only [Tryd.f46, dr46, dd46, Option.getD_some]
  refine ev_start ?_
  simp (disch := omega) only [go_sem, Int.reduceEq, Int.reduceLT, Int.reduceLE, Int.reduceNeg, Nat.reduceAdd, Nat.reduceLT, Nat.reduceEqDiff, Nat.reduceMul, Nat.reduceLeDiff, reduceIte, Nat.reduceBEq, reduceCtorEq, evP_D, evD_guard, evD_cons, evD_zero, evD_nil]
  refine evQ_loop [1, 2, 15, 16, 17] [] (fun σ => ∃ k : Nat, k ≤ E.length ∧ σ = ⟨[(1, .row 3 (E.map enW)), (2, .fn 31 []), (15, .row 3 (E.map enW)), (16, .int .i64 E.length), (17, .int .i64 k)], []⟩) (fun σ => E.length - (match Ev.look 17 σ.env with | some (.int _ n) => n.toNat | _ => 0)) ?_ ?_
  · simp only [go_sem, Int.reduceEq, Int.reduceLT, Int.reduceLE, Int.reduceNeg, Nat.reduceAdd, Nat.reduceLT, Nat.reduceEqDiff, Nat.reduceMul, Nat.reduceLeDiff, reduceIte, Nat.reduceBEq, reduceCtorEq, evP_D, evD_guard, evD_cons, evD_zero, evD_nil]
    exact ⟨0, Nat.zero_le _, rfl⟩
  · rintro σ ⟨k, hk, rfl⟩
    by_cases hlt : k < E.length
    · have hlt' : (k : Int) < E.length := by omega
      obtain ⟨⟨c, d, l⟩, hcn⟩ : ∃ p, E[k]? = some p := ⟨_, List.getElem?_eq_getElem hlt⟩
      have g1 := enW_get hcn
      have hS := sameF_eq (k := c) (d := d) (rowAc_row l) (rowAc_row l)
      simp (disch := (first | omega | assumption)) only [hlt', idx_nat, List.length_map, g1, hS, go_sem, Int.reduceEq, Int.reduceLT, Int.reduceLE, Int.reduceNeg, Nat.reduceAdd, Nat.reduceLT, Nat.reduceEqDiff, Nat.reduceMul, Nat.reduceLeDiff, reduceIte, Nat.reduceBEq, reduceCtorEq, evP_D, evD_guard, evD_cons, evD_zero, evD_nil]
      exact ⟨⟨k + 1, hlt, rfl⟩, by
        have e3 : ((k : Int) + 1).toNat = k + 1 := by omega
        rw [e3, Int.toNat_natCast]; exact Nat.sub_lt_sub_left hlt (Nat.lt_succ_self k)⟩
    · have hlt' : ¬ ((k : Int) < E.length) := by omega
      simp (disch := (first | omega | assumption)) only [hlt', go_sem, Int.reduceEq, Int.reduceLT, Int.reduceLE, Int.reduceNeg, Nat.reduceAdd, Nat.reduceLT, Nat.reduceEqDiff, Nat.reduceMul, Nat.reduceLeDiff, reduceIte, Nat.reduceBEq, reduceCtorEq, evP_D, evD_guard, evD_cons, evD_zero, evD_nil]
noncomputable def eqFF : List V → Option (V × List Blk)
  | [x, y, .fn f []] => match rowEn x, rowEn y with
    | some xs, some ys => if xs = ys ∧ f = 31 then some (.bool true, []) else none
    | _, _ => none
  | _ => none
theorem eqFF_eq {x y : V} {E : List En} (hx : rowEn x = some E) (hy : rowEn y = some E) : eqFF [x, y, .fn 31 []] = some (.bool true, []) := by
  simp only [eqFF, hx, hy, and_self, if_true]
theorem eqF_snd {J : World → Prop} (hJ : Stable J) : Snd Tryd.prog J 46 eqFF := by
  intro args r bs h
  unfold eqFF at h
  split at h
  · rename_i x y f
    split at h
    · rename_i xs ys hx hy
      split at h
      · rename_i hxy
        obtain ⟨rfl, rfl⟩ := hxy
        obtain ⟨rfl, rfl⟩ := some_pair h
        exact sound_by (eqF_sound hJ xs) rfl fun w ok j c v hc hv => by
          match j with
          | 0 => simp at hc; subst hc; exact ⟨_, rfl, rowEn_rel hx hv⟩
          | 1 => simp at hc; subst hc; exact ⟨_, rfl, rowEn_rel hy hv⟩
          | 2 => simp at hc; subst hc; exact ⟨_, rfl, hv⟩
          | j + 3 => simp at hc
      · cases h
    · cases h
  · cases h
noncomputable def sbF : List V → Option (V × List Blk)
  | [.agg [x, y, .int .i64 s], .agg [x', y', .int .i64 s']] => open Classical in if (s = s' ∧ (∃ A, rowAc x = some A ∧ rowAc x' = some A)) ∧ ∃ E, rowEn y = some E ∧ rowEn y' = some E then some (.bool true, []) else none
  | _ => none
theorem sbF_eq {x x' y y' : V} {s : Int} {A : List (ByteArray × Int)} {E : List En} (h1 : rowAc x = some A) (h2 : rowAc x' = some A) (h3 : rowEn y = some E) (h4 : rowEn y' = some E) : sbF [.agg [x, y, .int .i64 s], .agg [x', y', .int .i64 s]] = some (.bool true, []) := by
  simp only [sbF]
  exact if_pos ⟨⟨rfl, A, h1, h2⟩, E, h3, h4⟩
theorem rowAc_data {x : V} {A : List (ByteArray × Int)} (h : rowAc x = some A) : V.data x = true := by
  unfold rowAc at h
  split at h
  · rfl
  · rfl
  · cases h
theorem rowEn_data {x : V} {E : List En} (h : rowEn x = some E) : V.data x = true := by
  unfold rowEn at h
  split at h
  · rfl
  · rfl
  · cases h
theorem sb_snd {J : World → Prop} (hJ : Stable J) : Snd Tryd.prog J 77 sbF := by
  intro args r bs h
  unfold sbF at h
  split at h
  · rename_i x y s x' y' s'
    split at h
    · rename_i hc
      obtain ⟨⟨rfl, A, h1, h2⟩, E, h3, h4⟩ := hc
      obtain ⟨rfl, rfl⟩ := some_pair h
      have hS : SoundAt Tryd.prog J 77 [bkV A E s, bkV A E s] (.bool true) [] := by
        unfold bkV
        refine evFn (l := [(112, eqAF), (46, eqFF)]) (nv := nv0) (fz := fz0) (dr := dr77) (dd := dd77) (lam := []) ⟨eqA_snd hJ, eqF_snd hJ, trivial⟩ hJ trivial Tryd.func77 rfl rfl (Nat.le_of_ble_eq_true rfl) (Nat.le_of_ble_eq_true rfl) drOk77 ?_
        dsimp only [Tryd.f77, dr77, dd77, Option.getD_some]
        refine ev_start ?_
        have ha := eqAF_eq (rowAc_row A) (rowAc_row A)
        have he := eqFF_eq (rowEn_row E) (rowEn_row E)
        simp (disch := omega) only [ha, he, go_sem, Int.reduceEq, Int.reduceLT, Int.reduceLE, Int.reduceNeg, Nat.reduceAdd, Nat.reduceLT, Nat.reduceEqDiff, Nat.reduceMul, Nat.reduceLeDiff, reduceIte, Nat.reduceBEq, reduceCtorEq, evP_D, evD_guard, evD_cons, evD_zero, evD_nil]
      have key : ∀ (x y : V), rowAc x = some A → rowEn y = some E → ∀ (w : World) (ok : Nat → Prop) v, RelD w ok (.agg [x, y, .int .i64 s]) v → RelD w ok (bkV A E s) v := by
        intro x y hx hy w ok v hv
        cases hv with
        | agg cs vs hl h1 hh =>
          refine .agg _ vs (by simpa using hl) h1 fun j c v hc hv => ?_
          match j with
          | 0 => simp at hc; subst hc; exact rowAc_rel hx (hh 0 x v rfl hv)
          | 1 => simp at hc; subst hc; exact rowEn_rel hy (hh 1 y v rfl hv)
          | 2 => exact hh 2 c v hc hv
          | j + 3 => simp at hc
      exact sound_by hS rfl fun w ok j c v hc hv => by
        match j with
        | 0 => simp at hc; subst hc; exact ⟨_, rfl, key x y h1 h3 _ _ _ hv⟩
        | 1 => simp at hc; subst hc; exact ⟨_, rfl, key x' y' h2 h4 _ _ _ hv⟩
        | j + 2 => simp at hc
    · cases h
  · cases h
noncomputable def toldF : List V → Option (V × List Blk)
  | [.agg [x, y, .int .i64 s], .int .i64 e, .agg [x', y', .int .i64 s'], .int .i64 e'] => open Classical in if (e = e' ∧ s = s' ∧ (∃ A, rowAc x = some A ∧ rowAc x' = some A)) ∧ ∃ E, rowEn y = some E ∧ rowEn y' = some E then some (.bool true, []) else none
  | _ => none
theorem toldF_eq {x x' y y' : V} {s e : Int} {A : List (ByteArray × Int)} {E : List En} (h1 : rowAc x = some A) (h2 : rowAc x' = some A) (h3 : rowEn y = some E) (h4 : rowEn y' = some E) : toldF [.agg [x, y, .int .i64 s], .int .i64 e, .agg [x', y', .int .i64 s], .int .i64 e] = some (.bool true, []) := by
  simp only [toldF]
  exact if_pos ⟨⟨rfl, rfl, A, h1, h2⟩, E, h3, h4⟩
theorem told_snd {J : World → Prop} (hJ : Stable J) : Snd Tryd.prog J 42 toldF := by
  intro args r bs h
  unfold toldF at h
  split at h
  · rename_i x y s e x' y' s' e'
    split at h
    · rename_i hc
      obtain ⟨⟨rfl, rfl, A, h1, h2⟩, E, h3, h4⟩ := hc
      obtain ⟨rfl, rfl⟩ := some_pair h
      have hs := sbF_eq (s := s) h1 h2 h3 h4
      have d1 := rowAc_data h1
      have d2 := rowAc_data h2
      have d3 := rowEn_data h3
      have d4 := rowEn_data h4
      unfold rowAc at h1 h2
      unfold rowEn at h3 h4
      refine evFn (l := [(77, sbF)]) (nv := nv0) (fz := fz0) (dr := dr42) (dd := dd42) (lam := []) ⟨sb_snd hJ, trivial⟩ hJ trivial Tryd.func42 rfl rfl (Nat.le_of_ble_eq_true rfl) (Nat.le_of_ble_eq_true rfl) drOk42 ?_
      dsimp only [Tryd.f42, dr42, dd42, Option.getD_some]
      refine ev_start ?_
      split at h1 <;> split at h2 <;> split at h3 <;> split at h4 <;> first | (cases h1; done) | (cases h2; done) | (cases h3; done) | (cases h4; done) | simp (disch := omega) only [hs, go_sem, Int.reduceEq, Int.reduceLT, Int.reduceLE, Int.reduceNeg, Nat.reduceAdd, Nat.reduceLT, Nat.reduceEqDiff, Nat.reduceMul, Nat.reduceLeDiff, reduceIte, Nat.reduceBEq, reduceCtorEq, evP_D, evD_guard, evD_cons, evD_zero, evD_nil]
    · cases h
  · cases h
end Go.Proofs.YtdjdipehfnnhpaaDoor
