/-
  Books, run by the machine: the reference's Book.
-/
import Derived.Test.YtdjdipehfnnhpaaDoorBkF
namespace Go.Proofs.YtdjdipehfnnhpaaDoor
open Go Go.Ev Go.RowKit Go.Acc
set_option maxHeartbeats 4000000
set_option linter.unusedSimpArgs false
set_option linter.unusedVariables false
attribute [local go_sem] lenM takeV tk1 mapsV mkMapV hintOk lookV updV mapKE keyOk V.key app_lend callW_fn lendV postL_ret postL_normal St.lent mkX_L bin_eql_vz bin_eql_zv bin_eql_rz bin_eql_zr bin_eql_zz bin_neq_vz bin_neq_zv bin_neq_rz bin_neq_zr bin_neq_zz eqH nilEq nonE plainI gOf_bool gOf_skip g_some g_none Int.ofNat_zero Int.cast_ofNat_Int Bool.false_and Bool.and_false sliceV noBox elemsZ V.scrub V.scrubL Blk.scrub appendV isSlice maxLen_eq leT List.contains_nil List.contains_cons nvL_at fzL_at fillV V.plain V.plainL Blk.plain List.size_toArray mapO_nil mapO_cons Option.isNone_none Option.isNone_some beqT beqF oI_not mkX_e phi_nil phi_cons bin_eql_bool bin_neq_bool bin_eql_agg bin_neq_agg eqV eqFs eqK_int eqK_bool' eqK_str mkX_T mkX_Φ mkX_n mkX_f mkX_d mkX_r nv0_at fz0_at evQ_dr evP_W evW_nil evW_cons evW_guard okW_eq tame_none tame_new tame_write wb_none wb_new wb_write okU_some offW_none offW_some touchOf V.noRef V.noRefL Option.isSome_some Option.isSome_none mild_none mild_new Option.getD_some Option.getD_none evQ_seq evQ_region evQ_block evQ_cond evQ_ret evQ_skip evQ_exit evO_cons evO_nil evO_guard freezeL_nil oS_some oS_none oS_ite oS_ite' oB_bool oI_true oI_false oE_normal oE_exit oE_ret bQ_normal bQ_ret bQ_exit lQ_normal lQ_ret lQ_exit List.zipIdx_cons List.zipIdx_nil List.map_cons List.map_nil evalOp opd_const opd_tmp opd_func ofC_int ofC_bool ofC_str ofC_nil app_none app_new app_write app_change putE_some putE_none setA_cons setA_nil setH_cons setH_nil mapA_cons mapA_nil look_cons look_nil e_mk h_mk drop_nil drop_mk keep_mk dstOk_some dstOk_none guardT_eq true_and and_true Bool.not_false Bool.not_true selB_true selB_false mem_nil mem_cons kpL_nil kpL_cons drL_nil drL_cons closed_mk V.refsIn V.refsInL Blk.refsIn List.all_cons List.all_nil lenV bin_add bin_sub bin_mul bin_quo bin_rem bin_eql bin_neq bin_lss bin_leq bin_gtr bin_geq un_neg un_not post_ret post_normal St.init Bool.false_eq_true List.length_map Bool.or_false Bool.or_true Bool.false_or Bool.true_or beq_self_eq_true Option.map_some Option.map_none Option.bind_some List.getElem?_cons_zero List.getElem?_cons_succ scalar stor isAggV V.cells List.cons_append List.nil_append if_true if_false wrap_of callV V.dataL V.data Bool.and_true Bool.true_and fresh names V.ren V.renL retV resV packL packV packC getBlks wrapR subV putV decide_true decide_false TK.agg List.length_cons List.length_nil List.take_succ_cons List.take_zero List.drop_succ_cons List.drop_zero List.take_nil List.drop_nil Nat.zero_add Nat.add_zero List.append_nil List.getElem?_nil elemsV ro ro0 ro1 roC ty2 ty3 ty4 ty5 ty6 ty7 ty8 ty9 ty10 ty11 ty12 ty13 ty14 ty18 ty19 ty21 ty24 ty25 ty28 ty29 ty30 ty31 ty35 ty36 ty37 ty45 ty50 ty51 ty71 ty75 ty79 ty80 ty84 ty91 ty92 ty98 ty99 ty109 ty114 ty129 ty134 ty146 ty158 ty159 ty160 ty161 ty165 ty166 ty171 ty172 ty175 ty176 ty177 ty178 eqs51 eqs80 eqs92 eqs99
def hasF : List V → Option (V × List Blk)
  | [.row 2 es, .str c] => (unAc es).map fun A => (.bool (hasA A c), [])
  | _ => none
theorem hasF_eq (A : List (ByteArray × Int)) (c : ByteArray) : hasF [.row 2 (A.map acV), .str c] = some (.bool (hasA A c), []) := by simp only [hasF, unAc_map, Option.map_some]
theorem has_sound {J : World → Prop} (hJ : Stable J) (A : List (ByteArray × Int)) (c : ByteArray) : SoundAt Tryd.prog J 40 [.row 2 (A.map acV), .str c] (.bool (hasA A c)) [] := by
  refine SoundAt.row 0 rfl (callOk Tryd.func40 rfl rfl) fun hlen => ?_
  simp only [maxLen, List.length_map] at hlen
  refine evFn (l := []) (nv := nv0) (fz := fz0) (dr := dr40) (dd := dd40) (lam := []) trivial hJ trivial Tryd.func40 rfl rfl (Nat.le_of_ble_eq_true rfl) (Nat.le_of_ble_eq_true rfl) drOk40 ?_
  dsimp only [Tryd.f40, dr40, dd40, Option.getD_some]
  refine ev_start ?_
  simp (disch := omega) only [go_sem, Int.reduceEq, Int.reduceLT, Int.reduceLE, Int.reduceNeg, Nat.reduceAdd, Nat.reduceLT, Nat.reduceEqDiff, Nat.reduceMul, Nat.reduceLeDiff, reduceIte, Nat.reduceBEq, reduceCtorEq, evP_D, evD_guard, evD_cons, evD_zero, evD_nil]
  refine evQ_loop [1, 7, 8, 9] [] (fun σ => ∃ (k : Nat), (k ≤ A.length ∧ ∀ i (h : i < A.length), i < k → isC c A[i] = false) ∧ σ = ⟨[(1, .str c), (7, .row 2 (A.map acV)), (8, .int .i64 A.length), (9, .int .i64 k)], []⟩)
    (fun σ => A.length - (match Ev.look 9 σ.env with | some (.int _ n) => n.toNat | _ => 0)) ?_ ?_
  · simp only [go_sem, Int.reduceEq, Int.reduceLT, Int.reduceLE, Int.reduceNeg, Nat.reduceAdd, Nat.reduceLT, Nat.reduceEqDiff, Nat.reduceMul, Nat.reduceLeDiff, reduceIte, Nat.reduceBEq, reduceCtorEq, evP_D, evD_guard, evD_cons, evD_zero, evD_nil]
    exact ⟨0, ⟨Nat.zero_le _, fun _ _ h => by omega⟩, rfl⟩
  · rintro σ ⟨k, ⟨hk, hall⟩, rfl⟩
    by_cases hlt : k < A.length
    · have hlt' : (k : Int) < A.length := by omega
      have hg : (A.map acV)[k]? = some (.agg [.str A[k].1, .int .i64 A[k].2]) := acV_get (c := A[k].1) (n := A[k].2) (List.getElem?_eq_getElem hlt)
      cases hb : isC c A[k] with
      | true =>
        have hany : hasA A c = true := List.any_eq_true.2 ⟨A[k], List.getElem_mem hlt, hb⟩
        have hb' : A[k].1 = c := by simpa [isC] using hb
        simp (disch := (first | omega | assumption)) only [hlt', idx_nat, List.length_map, hg, bin_eql_str, hb', decide_true, hany, go_sem, Int.reduceEq, Int.reduceLT, Int.reduceLE, Int.reduceNeg, Nat.reduceAdd, Nat.reduceLT, Nat.reduceEqDiff, Nat.reduceMul, Nat.reduceLeDiff, reduceIte, Nat.reduceBEq, reduceCtorEq, evP_D, evD_guard, evD_cons, evD_zero, evD_nil]
      | false =>
        have hb' : ¬ A[k].1 = c := by simpa [isC] using hb
        simp (disch := (first | omega | assumption)) only [hlt', idx_nat, List.length_map, hg, bin_eql_str, hb', decide_false, go_sem, Int.reduceEq, Int.reduceLT, Int.reduceLE, Int.reduceNeg, Nat.reduceAdd, Nat.reduceLT, Nat.reduceEqDiff, Nat.reduceMul, Nat.reduceLeDiff, reduceIte, Nat.reduceBEq, reduceCtorEq, evP_D, evD_guard, evD_cons, evD_zero, evD_nil]
        exact ⟨⟨k + 1, ⟨hlt, fun i hi hik => by
          by_cases e : i = k
          · subst e; exact hb
          · exact hall i hi (by omega)⟩, rfl⟩, by show A.length - ((k : Int) + 1).toNat < A.length - (k : Int).toNat; omega⟩
    · have hk' : k = A.length := by omega
      subst hk'
      have hlt' : ¬ ((A.length : Int) < A.length) := by omega
      have hany : hasA A c = false := by
        unfold hasA
        rw [List.any_eq_false]
        intro x hx
        obtain ⟨i, hi, rfl⟩ := List.mem_iff_getElem.1 hx
        simp [hall i hi hi]
      simp (disch := (first | omega | assumption)) only [hlt', hany, go_sem, Int.reduceEq, Int.reduceLT, Int.reduceLE, Int.reduceNeg, Nat.reduceAdd, Nat.reduceLT, Nat.reduceEqDiff, Nat.reduceMul, Nat.reduceLeDiff, reduceIte, Nat.reduceBEq, reduceCtorEq, evP_D, evD_guard, evD_cons, evD_zero, evD_nil]
theorem has_snd {J : World → Prop} (hJ : Stable J) : Snd Tryd.prog J 40 hasF := by
  intro args r bs h
  unfold hasF at h
  split at h
  · rename_i es c
    simp only [Option.map_eq_some_iff] at h
    obtain ⟨A, hA, h⟩ := h
    obtain ⟨rfl, rfl⟩ := some_pair (congrArg some h)
    rw [unAc_eq hA]
    exact has_sound hJ A c
  · cases h
theorem accts_snd {J : World → Prop} (hJ : Stable J) : Snd Tryd.prog J 20 chkF := by
  intro args r bs h
  unfold chkF at h
  split at h
  · rename_i es
    simp only [Option.map_eq_some_iff] at h
    obtain ⟨l, hl, h⟩ := h
    obtain ⟨rfl, rfl⟩ := some_pair (congrArg some h)
    rw [unAc_eq hl]
    exact accts_sound hJ l
  · cases h
def rentryF : List V → Option (V × List Blk)
  | [.agg [.str key, .int .i64 day, .row 2 es]] => if key.size ≤ maxLen ∧ es.length ≤ maxLen then (unAc es).map fun l => (.int .i64 (enE key day l), []) else none
  | _ => none
theorem rentryF_eq {key : ByteArray} {day : Int} {l : List (ByteArray × Int)} (hk : key.size ≤ maxLen) (hl : l.length ≤ maxLen) : rentryF [.agg [.str key, .int .i64 day, .row 2 (l.map acV)]] = some (.int .i64 (enE key day l), []) := by
  simp only [rentryF, unAc_map, Option.map_some]
  exact if_pos ⟨hk, by rw [List.length_map]; exact hl⟩
theorem rentry_snd {J : World → Prop} (hJ : Stable J) : Snd Tryd.prog J 26 rentryF := by
  intro args r bs h
  unfold rentryF at h
  split at h
  · rename_i key day es
    split at h
    · rename_i hc
      simp only [Option.map_eq_some_iff] at h
      obtain ⟨l, hl, h⟩ := h
      obtain ⟨rfl, rfl⟩ := some_pair (congrArg some h)
      have e := unAc_eq hl
      subst e
      exact rentry_sound hJ key day l hc.1 (by simpa using hc.2)
    · cases h
  · cases h
def okEn (E : List En) : Prop := E.length ≤ maxLen ∧ ∀ x ∈ E, x.1.size ≤ maxLen ∧ x.2.2.length ≤ maxLen
set_option maxHeartbeats 8000000 in
theorem rbook_sound {J : World → Prop} (hJ : Stable J) (A : List (ByteArray × Int)) (E : List En) (s : Int) (hE : okEn E) : SoundAt Tryd.prog J 35 [bkV A E s] (.int .i64 (bkChk A E s)) [] := by
  have hlen : (E.length : Int) ≤ 9223372036854775807 := by have := hE.1; unfold maxLen at this; omega
  unfold bkV
  refine evFn (l := [(20, chkF), (36, dayF), (26, rentryF), (40, hasF)]) (nv := nv0) (fz := fz0) (dr := dr35) (dd := dd35) (lam := []) ⟨accts_snd hJ, day_snd hJ, rentry_snd hJ, has_snd hJ, trivial⟩ hJ trivial Tryd.func35 rfl rfl (Nat.le_of_ble_eq_true rfl) (Nat.le_of_ble_eq_true rfl) drOk35 ?_
  dsimp only [Tryd.f35, dr35, dd35, Option.getD_some]
  refine ev_start ?_
  by_cases ha : acChk A = 0
  case neg =>
    have e : bkChk A E s = acChk A := by unfold bkChk; rw [if_pos ha]
    simp (disch := omega) only [chkF_eq, ha, e, go_sem, Int.reduceEq, Int.reduceLT, Int.reduceLE, Int.reduceNeg, Nat.reduceAdd, Nat.reduceLT, Nat.reduceEqDiff, Nat.reduceMul, Nat.reduceLeDiff, reduceIte, Nat.reduceBEq, reduceCtorEq, evP_D, evD_guard, evD_cons, evD_zero, evD_nil]
  by_cases hs : -1 ≤ s ∧ s ≤ 292193
  case neg =>
    have e : bkChk A E s = 1 := by unfold bkChk; rw [if_neg (fun h => h ha), if_pos hs]
    have h1 : ¬ s = -1 := by omega
    have h2 : (decide (0 ≤ s ∧ s ≤ 292193)) = false := decide_eq_false (by omega)
    simp (disch := omega) only [chkF_eq, dayF_eq, ha, h1, h2, e, go_sem, Int.reduceEq, Int.reduceLT, Int.reduceLE, Int.reduceNeg, Nat.reduceAdd, Nat.reduceLT, Nat.reduceEqDiff, Nat.reduceMul, Nat.reduceLeDiff, reduceIte, Nat.reduceBEq, reduceCtorEq, evP_D, evD_guard, evD_cons, evD_zero, evD_nil]
  by_cases h3 : 60 < E.length
  · have h3' : (60 : Int) < E.length := by omega
    have e : bkChk A E s = 2 := by unfold bkChk; rw [if_neg (fun h => h ha), if_neg (fun h => h hs), if_pos h3]
    by_cases h1 : s = -1
    · have h1t := eq_true h1
      simp (disch := omega) only [chkF_eq, dayF_eq, List.length_map, ha, h1t, h3', e, go_sem, Int.reduceEq, Int.reduceLT, Int.reduceLE, Int.reduceNeg, Nat.reduceAdd, Nat.reduceLT, Nat.reduceEqDiff, Nat.reduceMul, Nat.reduceLeDiff, reduceIte, Nat.reduceBEq, reduceCtorEq, evP_D, evD_guard, evD_cons, evD_zero, evD_nil]
    · have h2 : (decide (0 ≤ s ∧ s ≤ 292193)) = true := decide_eq_true (by omega)
      simp (disch := omega) only [chkF_eq, dayF_eq, List.length_map, ha, h1, h2, h3', e, go_sem, Int.reduceEq, Int.reduceLT, Int.reduceLE, Int.reduceNeg, Nat.reduceAdd, Nat.reduceLT, Nat.reduceEqDiff, Nat.reduceMul, Nat.reduceLeDiff, reduceIte, Nat.reduceBEq, reduceCtorEq, evP_D, evD_guard, evD_cons, evD_zero, evD_nil]
  have h3' : ¬ (60 : Int) < E.length := by omega
  obtain ⟨R, hR⟩ : ∃ R, R = bkE A [] none E := ⟨_, rfl⟩
  have e : bkChk A E s = R := by unfold bkChk; rw [if_neg (fun h => h ha), if_neg (fun h => h hs), if_neg h3, hR]
  rw [e]
  have hday : (s = -1) = True ∨ (¬ s = -1 ∧ (decide (0 ≤ s ∧ s ≤ 292193)) = true) := by
    by_cases h1 : s = -1
    · exact .inl (eq_true h1)
    · exact .inr ⟨h1, decide_eq_true (by omega)⟩
  rcases hday with h1 | ⟨h1, h2⟩
  case' inl => simp (disch := omega) only [chkF_eq, dayF_eq, List.length_map, ha, h1, h3', go_sem, Int.reduceEq, Int.reduceLT, Int.reduceLE, Int.reduceNeg, Nat.reduceAdd, Nat.reduceLT, Nat.reduceEqDiff, Nat.reduceMul, Nat.reduceLeDiff, reduceIte, Nat.reduceBEq, reduceCtorEq, evP_D, evD_guard, evD_cons, evD_zero, evD_nil]
  case' inr => simp (disch := omega) only [chkF_eq, dayF_eq, List.length_map, ha, h1, h2, h3', go_sem, Int.reduceEq, Int.reduceLT, Int.reduceLE, Int.reduceNeg, Nat.reduceAdd, Nat.reduceLT, Nat.reduceEqDiff, Nat.reduceMul, Nat.reduceLeDiff, reduceIte, Nat.reduceBEq, reduceCtorEq, evP_D, evD_guard, evD_cons, evD_zero, evD_nil]
  all_goals
    refine evQ_loop [1, 4, 32, 33, 34] [8, 240] (fun σ => ∃ (k : Nat), (k ≤ E.length ∧ R = bkE A (keysTo E k) (prvE E k) (E.drop k)) ∧ σ = ⟨[(1, .ptr 8 0), (4, .vec 240), (32, .row 3 (E.map enW)), (33, .int .i64 E.length), (34, .int .i64 k)], [(8, .box (.agg [.row 2 (A.map acV), .row 3 (E.map enW), .int .i64 s])), (240, .map (setV (keysTo E k)))]⟩)
      (fun σ => E.length - (match Ev.look 34 σ.env with | some (.int _ n) => n.toNat | _ => 0)) ?_ ?_
    · simp only [go_sem, Int.reduceEq, Int.reduceLT, Int.reduceLE, Int.reduceNeg, Nat.reduceAdd, Nat.reduceLT, Nat.reduceEqDiff, Nat.reduceMul, Nat.reduceLeDiff, reduceIte, Nat.reduceBEq, reduceCtorEq, evP_D, evD_guard, evD_cons, evD_zero, evD_nil]
      exact ⟨0, ⟨Nat.zero_le _, hR⟩, rfl⟩
    · rintro σ ⟨k, ⟨hkl, hall⟩, rfl⟩
      by_cases hlt : k < E.length
      · have hlt' : (k : Int) < E.length := by omega
        obtain ⟨⟨c, d, l⟩, hcn⟩ : ∃ p, E[k]? = some p := ⟨_, List.getElem?_eq_getElem hlt⟩
        obtain ⟨hsz, hll⟩ := hE.2 _ (List.mem_of_getElem? hcn)
        simp only at hsz hll
        have hll' : (l.length : Int) ≤ 9223372036854775807 := by unfold maxLen at hll; omega
        have hg := enW_get hcn
        have hks := keysTo_succ hcn
        have hpn : prvE E (k + 1) = some (c, d, l) := by unfold prvE; rw [if_neg (by omega), Nat.add_sub_cancel, hcn]
        have hen := rentryF_eq (day := d) hsz hll
        rw [bkE_drop hcn] at hall
        have hms : E.length - ((k : Int) + 1).toNat < E.length - (k : Int).toNat := by
          have e3 : ((k : Int) + 1).toNat = k + 1 := by omega
          rw [e3, Int.toNat_natCast]; exact Nat.sub_lt_sub_left hlt (Nat.lt_succ_self k)
        have hx0 : enX (c, d, l) = enE c d l := rfl
        rw [hx0] at hall
        by_cases hz : enE c d l = 0
        case neg =>
          rw [if_pos hz] at hall
          rw [hall]
          simp (disch := (first | omega | assumption)) only [hlt', idx_nat, List.length_map, hg, hen, hz, go_sem, Int.reduceEq, Int.reduceLT, Int.reduceLE, Int.reduceNeg, Nat.reduceAdd, Nat.reduceLT, Nat.reduceEqDiff, Nat.reduceMul, Nat.reduceLeDiff, reduceIte, Nat.reduceBEq, reduceCtorEq, evP_D, evD_guard, evD_cons, evD_zero, evD_nil]
        rw [if_neg (fun h => h hz)] at hall
        have hbad : knownB A (c, d, l) = false → R = 4 := fun h => by rw [if_pos h] at hall; exact hall
        simp (disch := (first | omega | assumption)) only [hlt', idx_nat, List.length_map, hg, hen, hz, go_sem, Int.reduceEq, Int.reduceLT, Int.reduceLE, Int.reduceNeg, Nat.reduceAdd, Nat.reduceLT, Nat.reduceEqDiff, Nat.reduceMul, Nat.reduceLeDiff, reduceIte, Nat.reduceBEq, reduceCtorEq, evP_D, evD_guard, evD_cons, evD_zero, evD_nil]
        refine evQ_loop [1, 4, 5, 6, 32, 33, 34, 45, 46, 47] [8, 240, 48] (fun σ => ∃ (j : Nat), (j ≤ l.length ∧ ∀ i (h : i < l.length), i < j → hasA A l[i].1 = true) ∧ σ = ⟨[(1, .ptr 8 0), (4, .vec 240), (5, .int .i64 k), (6, .ptr 48 0), (32, .row 3 (E.map enW)), (33, .int .i64 E.length), (34, .int .i64 k), (45, .row 2 (l.map acV)), (46, .int .i64 l.length), (47, .int .i64 j)], [(8, .box (.agg [.row 2 (A.map acV), .row 3 (E.map enW), .int .i64 s])), (240, .map (setV (keysTo E k))), (48, .box (.agg [.str c, .int .i64 d, .row 2 (l.map acV)]))]⟩)
          (fun σ => l.length - (match Ev.look 47 σ.env with | some (.int _ n) => n.toNat | _ => 0)) ?_ ?_
        · simp only [go_sem, Int.reduceEq, Int.reduceLT, Int.reduceLE, Int.reduceNeg, Nat.reduceAdd, Nat.reduceLT, Nat.reduceEqDiff, Nat.reduceMul, Nat.reduceLeDiff, reduceIte, Nat.reduceBEq, reduceCtorEq, evP_D, evD_guard, evD_cons, evD_zero, evD_nil]
          exact ⟨0, ⟨Nat.zero_le _, fun _ _ h => by omega⟩, rfl⟩
        · rintro σ ⟨j, ⟨hjl, hja⟩, rfl⟩
          by_cases hjt : j < l.length
          · have hjt' : (j : Int) < l.length := by omega
            have hgl : (l.map acV)[j]? = some (.agg [.str l[j].1, .int .i64 l[j].2]) := acV_get (c := l[j].1) (n := l[j].2) (List.getElem?_eq_getElem hjt)
            cases hb : hasA A l[j].1 with
            | false =>
              have hv := hbad (List.all_eq_false.2 ⟨l[j], List.getElem_mem hjt, by rw [hb]; simp⟩)
              rw [hv]
              simp (disch := (first | omega | assumption)) only [hjt', idx_nat, List.length_map, hgl, hasF_eq, hb, go_sem, Int.reduceEq, Int.reduceLT, Int.reduceLE, Int.reduceNeg, Nat.reduceAdd, Nat.reduceLT, Nat.reduceEqDiff, Nat.reduceMul, Nat.reduceLeDiff, reduceIte, Nat.reduceBEq, reduceCtorEq, evP_D, evD_guard, evD_cons, evD_zero, evD_nil]
            | true =>
              simp (disch := (first | omega | assumption)) only [hjt', idx_nat, List.length_map, hgl, hasF_eq, hb, go_sem, Int.reduceEq, Int.reduceLT, Int.reduceLE, Int.reduceNeg, Nat.reduceAdd, Nat.reduceLT, Nat.reduceEqDiff, Nat.reduceMul, Nat.reduceLeDiff, reduceIte, Nat.reduceBEq, reduceCtorEq, evP_D, evD_guard, evD_cons, evD_zero, evD_nil]
              exact ⟨⟨j + 1, ⟨hjt, fun i hi hij => by
                by_cases e : i = j
                · subst e; exact hb
                · exact hja i hi (by omega)⟩, rfl⟩, by show l.length - ((j : Int) + 1).toNat < l.length - (j : Int).toNat; omega⟩
          · have hj' : j = l.length := by omega
            subst hj'
            have hjt' : ¬ ((l.length : Int) < l.length) := by omega
            have hkn : knownB A (c, d, l) = true := List.all_eq_true.2 fun x hx => by
              obtain ⟨i, hi, rfl⟩ := List.mem_iff_getElem.1 hx
              exact hja i hi hi
            rw [if_neg (by rw [hkn]; simp)] at hall
            have hfi := find_set c (keysTo E k)
            cases hcs : hasC c (keysTo E k) with
            | true =>
              rw [hcs, if_pos rfl] at hfi
              rw [if_pos hcs] at hall
              rw [hall]
              simp (disch := (first | omega | assumption)) only [hjt', hfi, go_sem, Int.reduceEq, Int.reduceLT, Int.reduceLE, Int.reduceNeg, Nat.reduceAdd, Nat.reduceLT, Nat.reduceEqDiff, Nat.reduceMul, Nat.reduceLeDiff, reduceIte, Nat.reduceBEq, reduceCtorEq, evP_D, evD_guard, evD_cons, evD_zero, evD_nil]
            | false =>
              rw [hcs, if_neg (by simp)] at hfi
              rw [if_neg (by rw [hcs]; simp)] at hall
              have hup := upd_set c (keysTo E k) hcs
              rw [← hks] at hup
              by_cases hk0 : k = 0
              · subst hk0
                have hp : prvE E 0 = none := rfl
                rw [hp] at hall
                have h0 : ¬ (0 : Int) < ((0 : Nat) : Int) := by omega
                simp (disch := (first | omega | assumption)) only [hjt', hfi, hup, h0, go_sem, Int.reduceEq, Int.reduceLT, Int.reduceLE, Int.reduceNeg, Nat.reduceAdd, Nat.reduceLT, Nat.reduceEqDiff, Nat.reduceMul, Nat.reduceLeDiff, reduceIte, Nat.reduceBEq, reduceCtorEq, evP_D, evD_guard, evD_cons, evD_zero, evD_nil]
                exact ⟨⟨1, ⟨hlt, by rw [if_neg (by simp [badO])] at hall; exact hall⟩, rfl⟩, hms⟩
              · have h0 : (0 : Int) < k := by omega
                have hk1 : k - 1 < E.length := by omega
                obtain ⟨⟨c', d', l'⟩, hcn'⟩ : ∃ p, E[k - 1]? = some p := ⟨_, List.getElem?_eq_getElem hk1⟩
                have hg' := enW_get hcn'
                have hp : prvE E k = some (c', d', l') := by unfold prvE; rw [if_neg hk0, hcn']
                rw [hp] at hall
                have e1 : (k : Int) - 1 = ((k - 1 : Nat) : Int) := by omega
                have hlb : ltB (c', d', l') (c, d, l) = (decide (d' < d) || (decide (d' = d) && Op.bytesLess c'.toList c.toList)) := rfl
                by_cases hgt : d < d'
                · have hb : ltB (c', d', l') (c, d, l) = false := by rw [hlb, decide_eq_false (by omega), decide_eq_false (by omega)]; rfl
                  rw [if_pos (by simp [badO, hb])] at hall
                  rw [hall]
                  simp (disch := (first | omega | assumption)) only [hjt', idx_nat, List.length_map, hg', hfi, hup, h0, e1, hgt, go_sem, Int.reduceEq, Int.reduceLT, Int.reduceLE, Int.reduceNeg, Nat.reduceAdd, Nat.reduceLT, Nat.reduceEqDiff, Nat.reduceMul, Nat.reduceLeDiff, reduceIte, Nat.reduceBEq, reduceCtorEq, evP_D, evD_guard, evD_cons, evD_zero, evD_nil]
                · by_cases heq : d' = d
                  · have hlb2 : ltB (c', d', l') (c, d, l) = Op.bytesLess c'.toList c.toList := by rw [hlb, decide_eq_false (by omega), decide_eq_true heq]; rfl
                    have heqt := eq_true heq
                    cases hb : Op.bytesLess c'.toList c.toList with
                    | false =>
                      rw [if_pos (by simp only [badO, hlb2, hb]; rfl)] at hall
                      rw [hall]
                      simp (disch := (first | omega | assumption)) only [hjt', idx_nat, List.length_map, hg', hfi, hup, h0, e1, hgt, heqt, bin_geq_str, hb, go_sem, Int.reduceEq, Int.reduceLT, Int.reduceLE, Int.reduceNeg, Nat.reduceAdd, Nat.reduceLT, Nat.reduceEqDiff, Nat.reduceMul, Nat.reduceLeDiff, reduceIte, Nat.reduceBEq, reduceCtorEq, evP_D, evD_guard, evD_cons, evD_zero, evD_nil]
                    | true =>
                      rw [if_neg (by simp only [badO, hlb2, hb]; simp)] at hall
                      simp (disch := (first | omega | assumption)) only [hjt', idx_nat, List.length_map, hg', hfi, hup, h0, e1, hgt, heqt, bin_geq_str, hb, go_sem, Int.reduceEq, Int.reduceLT, Int.reduceLE, Int.reduceNeg, Nat.reduceAdd, Nat.reduceLT, Nat.reduceEqDiff, Nat.reduceMul, Nat.reduceLeDiff, reduceIte, Nat.reduceBEq, reduceCtorEq, evP_D, evD_guard, evD_cons, evD_zero, evD_nil]
                      exact ⟨⟨k + 1, ⟨hlt, hall⟩, rfl⟩, hms⟩
                  · have hb : ltB (c', d', l') (c, d, l) = true := by rw [hlb, decide_eq_true (by omega)]; rfl
                    rw [if_neg (by simp [badO, hb])] at hall
                    simp (disch := (first | omega | assumption)) only [hjt', idx_nat, List.length_map, hg', hfi, hup, h0, e1, hgt, heq, go_sem, Int.reduceEq, Int.reduceLT, Int.reduceLE, Int.reduceNeg, Nat.reduceAdd, Nat.reduceLT, Nat.reduceEqDiff, Nat.reduceMul, Nat.reduceLeDiff, reduceIte, Nat.reduceBEq, reduceCtorEq, evP_D, evD_guard, evD_cons, evD_zero, evD_nil]
                    exact ⟨⟨k + 1, ⟨hlt, hall⟩, rfl⟩, hms⟩
      · have hk' : k = E.length := by omega
        subst hk'
        have hlt' : ¬ ((E.length : Int) < E.length) := by omega
        have e0 : R = 0 := by rw [hall, List.drop_length]; rfl
        simp (disch := (first | omega | assumption)) only [hlt', e0, go_sem, Int.reduceEq, Int.reduceLT, Int.reduceLE, Int.reduceNeg, Nat.reduceAdd, Nat.reduceLT, Nat.reduceEqDiff, Nat.reduceMul, Nat.reduceLeDiff, reduceIte, Nat.reduceBEq, reduceCtorEq, evP_D, evD_guard, evD_cons, evD_zero, evD_nil]
end Go.Proofs.YtdjdipehfnnhpaaDoor
