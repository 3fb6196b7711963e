/-
  Entries, run by the machine: what is turned.
-/
import Derived.Test.YtdjdipehfnnhpaaDoorEnH
namespace Go.Acc
open Go
theorem lnE_ok : ∀ (l : List (ByteArray × Int)) (seen : List ByteArray), lnE seen l = 0 → ∀ x ∈ l, -1000000000000 ≤ x.2 ∧ x.2 ≤ 1000000000000
  | [], _, _ => by simp
  | (c, n) :: l, seen, h => by
    unfold lnE at h
    by_cases h1 : codeOk c = false
    · rw [if_pos h1] at h; omega
    rw [if_neg h1] at h
    by_cases h2 : ¬ ((-1000000000000 ≤ n ∧ n ≤ 1000000000000) ∧ n ≠ 0)
    · rw [if_pos h2] at h; omega
    rw [if_neg h2] at h
    by_cases h3 : hasC c seen = true
    · rw [if_pos h3] at h; omega
    rw [if_neg h3] at h
    intro x hx
    rcases List.mem_cons.1 hx with rfl | hx
    · exact (Decidable.not_not.1 h2).1
    · exact lnE_ok l _ h x hx
theorem lnChk_ok {l : List (ByteArray × Int)} (h : lnChk l = 0) : 2 ≤ l.length ∧ l.length ≤ 12 ∧ ∀ x ∈ l, -1000000000000 ≤ x.2 ∧ x.2 ≤ 1000000000000 := by
  unfold lnChk at h
  by_cases h1 : 12 < l.length
  · rw [if_pos h1] at h; omega
  rw [if_neg h1] at h
  by_cases h2 : lnE [] l = 0
  · rw [if_neg (fun hh => hh h2)] at h
    by_cases h3 : l.length < 2 ∨ lnSum l l.length ≠ 0
    · rw [if_pos h3] at h; omega
    · exact ⟨by omega, by omega, lnE_ok l [] h2⟩
  · rw [if_pos h2] at h; exact absurd h h2
theorem enE_ok {key : ByteArray} {day : Int} {l : List (ByteArray × Int)} (h : enE key day l = 0) : lnChk l = 0 := by
  unfold enE at h
  by_cases h1 : keyOk' key = false
  · rw [if_pos h1] at h; omega
  rw [if_neg h1] at h
  by_cases h2 : ¬ (0 ≤ day ∧ day ≤ 292193)
  · rw [if_pos h2] at h; omega
  rw [if_neg h2] at h
  exact h
end Go.Acc
namespace Go.Proofs.YtdjdipehfnnhpaaDoor
open Go Go.Ev Go.RowKit Go.Acc
set_option maxHeartbeats 4000000
set_option linter.unusedSimpArgs false
set_option linter.unusedVariables false
attribute [local go_sem] lenM takeV tk1 mapsV mkMapV hintOk lookV updV mapKE keyOk V.key app_lend callW_fn lendV postL_ret postL_normal St.lent mkX_L bin_eql_vz bin_eql_zv bin_eql_rz bin_eql_zr bin_eql_zz bin_neq_vz bin_neq_zv bin_neq_rz bin_neq_zr bin_neq_zz eqH nilEq nonE plainI gOf_bool gOf_skip g_some g_none Int.ofNat_zero Int.cast_ofNat_Int Bool.false_and Bool.and_false sliceV noBox elemsZ V.scrub V.scrubL Blk.scrub appendV isSlice maxLen_eq leT List.contains_nil List.contains_cons nvL_at fzL_at fillV V.plain V.plainL Blk.plain List.size_toArray mapO_nil mapO_cons Option.isNone_none Option.isNone_some beqT beqF oI_not mkX_e phi_nil phi_cons bin_eql_bool bin_neq_bool bin_eql_agg bin_neq_agg eqV eqFs eqK_int eqK_bool' eqK_str mkX_T mkX_Φ mkX_n mkX_f mkX_d mkX_r nv0_at fz0_at evQ_dr evP_W evW_nil evW_cons evW_guard okW_eq tame_none tame_new tame_write wb_none wb_new wb_write okU_some offW_none offW_some touchOf V.noRef V.noRefL Option.isSome_some Option.isSome_none mild_none mild_new Option.getD_some Option.getD_none evQ_seq evQ_region evQ_block evQ_cond evQ_ret evQ_skip evQ_exit evO_cons evO_nil evO_guard freezeL_nil oS_some oS_none oS_ite oS_ite' oB_bool oI_true oI_false oE_normal oE_exit oE_ret bQ_normal bQ_ret bQ_exit lQ_normal lQ_ret lQ_exit List.zipIdx_cons List.zipIdx_nil List.map_cons List.map_nil evalOp opd_const opd_tmp opd_func ofC_int ofC_bool ofC_str ofC_nil app_none app_new app_write app_change putE_some putE_none setA_cons setA_nil setH_cons setH_nil mapA_cons mapA_nil look_cons look_nil e_mk h_mk drop_nil drop_mk keep_mk dstOk_some dstOk_none guardT_eq true_and and_true Bool.not_false Bool.not_true selB_true selB_false mem_nil mem_cons kpL_nil kpL_cons drL_nil drL_cons closed_mk V.refsIn V.refsInL Blk.refsIn List.all_cons List.all_nil lenV bin_add bin_sub bin_mul bin_quo bin_rem bin_eql bin_neq bin_lss bin_leq bin_gtr bin_geq un_neg un_not post_ret post_normal St.init Bool.false_eq_true List.length_map Bool.or_false Bool.or_true Bool.false_or Bool.true_or beq_self_eq_true Option.map_some Option.map_none Option.bind_some List.getElem?_cons_zero List.getElem?_cons_succ scalar stor isAggV V.cells List.cons_append List.nil_append if_true if_false wrap_of callV V.dataL V.data Bool.and_true Bool.true_and fresh names V.ren V.renL retV resV packL packV packC getBlks wrapR subV putV decide_true decide_false TK.agg List.length_cons List.length_nil List.take_succ_cons List.take_zero List.drop_succ_cons List.drop_zero List.take_nil List.drop_nil Nat.zero_add Nat.add_zero List.append_nil List.getElem?_nil elemsV ro ro0 ro1 roC ty2 ty3 ty4 ty5 ty6 ty7 ty8 ty9 ty10 ty11 ty12 ty13 ty14 ty18 ty19 ty21 ty24 ty25 ty28 ty29 ty30 ty31 ty35 ty36 ty37 ty45 ty50 ty51 ty71 ty75 ty79 ty80 ty84 ty91 ty92 ty98 ty99 ty109 ty114 ty129 ty134 ty146 ty158 ty159 ty160 ty161 ty165 ty166 ty171 ty172 ty175 ty176 ty177 ty178 eqs51 eqs80 eqs92 eqs99
theorem turnL_step {l : List (ByteArray × Int)} {k : Nat} {c : ByteArray} {n : Int} (h : l[k]? = some (c, n)) : turnL (l.take (k + 1)) = turnL (l.take k) ++ [(c, 0 - n)] := by
  obtain ⟨hk, he⟩ := List.getElem?_eq_some_iff.1 h
  unfold turnL
  rw [List.take_succ_eq_append_getElem hk, he, List.map_append]
  rfl
set_option maxHeartbeats 4000000 in
theorem turned_sound {J : World → Prop} (hJ : Stable J) (key : ByteArray) (day : Int) (l : List (ByteArray × Int)) (k : ByteArray) (d : Int) (he : enE key day l = 0) (hk : keyOk' k = true) (hd : 0 ≤ d ∧ d ≤ 292193) :
    SoundAt Tryd.prog J 25 [enV key day (.row 2 (l.map acV)), .str k, .int .i64 d] (.tup [enV k d (.vec 0), .int .i64 0]) [.vec 92 2 ((turnL l).map acV)] := by
  have hd' : (decide (0 ≤ d ∧ d ≤ 292193)) = true := decide_eq_true hd
  obtain ⟨h2, h12, hnn⟩ := lnChk_ok (enE_ok he)
  unfold enV
  refine evFn (l := [(29, echeckF), (27, keyF), (60, dayF)]) (nv := nv0) (fz := fz0) (dr := dr25) (dd := dd25) (lam := []) ⟨echeck_snd hJ, key_snd hJ, is_snd hJ, trivial⟩ hJ trivial Tryd.func25 rfl rfl (Nat.le_of_ble_eq_true rfl) (Nat.le_of_ble_eq_true rfl) drOk25 ?_
  dsimp only [Tryd.f25, dr25, dd25, Option.getD_some]
  refine ev_start ?_
  simp (disch := omega) only [echeckF_eq, keyF_eq, dayF_eq, he, hk, hd', go_sem, Int.reduceEq, Int.reduceLT, Int.reduceLE, Int.reduceNeg, Nat.reduceAdd, Nat.reduceLT, Nat.reduceEqDiff, Nat.reduceMul, Nat.reduceLeDiff, reduceIte, Nat.reduceBEq, reduceCtorEq, evP_D, evD_guard, evD_cons, evD_zero, evD_nil]
  refine evQ_loop [6, 9, 30, 31, 32] [48, 72, 352] (fun σ => ∃ j : Nat, j ≤ l.length ∧ ((j = 0 ∧ σ = ⟨[(6, .ptr 48 0), (9, .ptr 72 0), (30, .row 2 (l.map acV)), (31, .int .i64 l.length), (32, .int .i64 j)], [(48, .box (.agg [.str ByteArray.empty, .int .i64 0, .zero])), (72, .box (.agg [.str k, .int .i64 d, .zero]))]⟩) ∨
      (0 < j ∧ σ = ⟨[(6, .ptr 48 0), (9, .ptr 72 0), (30, .row 2 (l.map acV)), (31, .int .i64 l.length), (32, .int .i64 j)], [(48, .box (.agg [.str ByteArray.empty, .int .i64 0, .zero])), (72, .box (.agg [.str k, .int .i64 d, .vec 352])), (352, .vec 92 2 ((turnL (l.take j)).map acV))]⟩)))
    (fun σ => l.length - (match Ev.look 32 σ.env with | some (.int _ n) => n.toNat | _ => 0)) ?_ ?_
  · simp only [go_sem, Int.reduceEq, Int.reduceLT, Int.reduceLE, Int.reduceNeg, Nat.reduceAdd, Nat.reduceLT, Nat.reduceEqDiff, Nat.reduceMul, Nat.reduceLeDiff, reduceIte, Nat.reduceBEq, reduceCtorEq, evP_D, evD_guard, evD_cons, evD_zero, evD_nil]
    exact ⟨0, Nat.zero_le _, .inl ⟨rfl, rfl⟩⟩
  · rintro σ ⟨j, hj, hσ⟩
    by_cases hlt : j < l.length
    · have hlt' : (j : Int) < l.length := by omega
      obtain ⟨⟨c, n⟩, hcn⟩ : ∃ p, l[j]? = some p := ⟨_, List.getElem?_eq_getElem hlt⟩
      have hg := acV_get hcn
      have hn := hnn (c, n) (List.mem_of_getElem? hcn)
      simp only at hn
      have hst := turnL_step hcn
      have hms : l.length - ((j : Int) + 1).toNat < l.length - (j : Int).toNat := by
        have e3 : ((j : Int) + 1).toNat = j + 1 := by omega
        rw [e3, Int.toNat_natCast]; exact Nat.sub_lt_sub_left hlt (Nat.lt_succ_self j)
      have hlen2 : (turnL (l.take j)).length ≤ l.length := by unfold turnL; rw [List.length_map]; exact List.length_take_le' _ _
      rcases hσ with ⟨hj0, rfl⟩ | ⟨hj0, rfl⟩
      · subst hj0
        have z0 : ((0 : Nat) : Int) = 0 := rfl
        have hi0 := idx_nat l.length 0 hlt
        rw [z0] at hlt' hi0 hms ⊢
        simp (disch := (first | omega | assumption)) only [hlt', hi0, List.length_map, hg, go_sem, Int.reduceEq, Int.reduceLT, Int.reduceLE, Int.reduceNeg, Nat.reduceAdd, Nat.reduceLT, Nat.reduceEqDiff, Nat.reduceMul, Nat.reduceLeDiff, reduceIte, Nat.reduceBEq, reduceCtorEq, evP_D, evD_guard, evD_cons, evD_zero, evD_nil]
        exact ⟨⟨1, hlt, .inr ⟨by omega, by rw [hst]; rfl⟩⟩, hms⟩
      · simp (disch := (first | omega | assumption)) only [hlt', idx_nat, List.length_map, hg, go_sem, Int.reduceEq, Int.reduceLT, Int.reduceLE, Int.reduceNeg, Nat.reduceAdd, Nat.reduceLT, Nat.reduceEqDiff, Nat.reduceMul, Nat.reduceLeDiff, reduceIte, Nat.reduceBEq, reduceCtorEq, evP_D, evD_guard, evD_cons, evD_zero, evD_nil]
        exact ⟨⟨j + 1, hlt, .inr ⟨by omega, by rw [hst, List.map_append]; rfl⟩⟩, hms⟩
    · have hj' : j = l.length := by omega
      subst hj'
      have hlt' : ¬ ((l.length : Int) < l.length) := by omega
      rcases hσ with ⟨hj0, rfl⟩ | ⟨hj0, rfl⟩
      · omega
      · simp (disch := (first | omega | assumption)) only [hlt', List.take_length, go_sem, Int.reduceEq, Int.reduceLT, Int.reduceLE, Int.reduceNeg, Nat.reduceAdd, Nat.reduceLT, Nat.reduceEqDiff, Nat.reduceMul, Nat.reduceLeDiff, reduceIte, Nat.reduceBEq, reduceCtorEq, evP_D, evD_guard, evD_cons, evD_zero, evD_nil]
theorem rturned_bad {J : World → Prop} (hJ : Stable J) (key : ByteArray) (day : Int) (l : List (ByteArray × Int)) (k : ByteArray) (d : Int) (e : Int) (hsz : k.size ≤ maxLen) (he : (if keyOk' k = false then 3 else if ¬ (0 ≤ d ∧ d ≤ 292193) then 1 else 0) = e) (h0 : e ≠ 0) :
    SoundAt Tryd.prog J 30 [enV key day (.row 2 (l.map acV)), .str k, .int .i64 d] (.tup [ozV, .int .i64 e]) [] := by
  unfold enV ozV
  refine evFn (l := [(28, at1 [.str k] (.bool (keyOk' k), [])), (36, dayF)]) (nv := nv0) (fz := fz0) (dr := dr30) (dd := dd30) (lam := []) ⟨at1_snd (rkey_sound hJ k hsz), day_snd hJ, trivial⟩ hJ trivial Tryd.func30 rfl rfl (Nat.le_of_ble_eq_true rfl) (Nat.le_of_ble_eq_true rfl) drOk30 ?_
  dsimp only [Tryd.f30, dr30, dd30, Option.getD_some]
  refine ev_start ?_
  cases hk : keyOk' k with
  | false =>
    rw [if_pos hk] at he
    subst he
    simp (disch := omega) only [at1_eq, hk, go_sem, Int.reduceEq, Int.reduceLT, Int.reduceLE, Int.reduceNeg, Nat.reduceAdd, Nat.reduceLT, Nat.reduceEqDiff, Nat.reduceMul, Nat.reduceLeDiff, reduceIte, Nat.reduceBEq, reduceCtorEq, evP_D, evD_guard, evD_cons, evD_zero, evD_nil]
  | true =>
    rw [if_neg (by rw [hk]; simp)] at he
    by_cases hd : 0 ≤ d ∧ d ≤ 292193
    · rw [if_neg (fun h => h hd)] at he; exact absurd he.symm h0
    · rw [if_pos hd] at he
      subst he
      have hd' : (decide (0 ≤ d ∧ d ≤ 292193)) = false := decide_eq_false hd
      simp (disch := omega) only [at1_eq, dayF_eq, hk, hd', go_sem, Int.reduceEq, Int.reduceLT, Int.reduceLE, Int.reduceNeg, Nat.reduceAdd, Nat.reduceLT, Nat.reduceEqDiff, Nat.reduceMul, Nat.reduceLeDiff, reduceIte, Nat.reduceBEq, reduceCtorEq, evP_D, evD_guard, evD_cons, evD_zero, evD_nil]
set_option maxHeartbeats 4000000 in
theorem rturned_sound {J : World → Prop} (hJ : Stable J) (key : ByteArray) (day : Int) (l : List (ByteArray × Int)) (k : ByteArray) (d : Int) (he : enE key day l = 0) (hk : keyOk' k = true) (hd : 0 ≤ d ∧ d ≤ 292193) (hsz : k.size ≤ maxLen) :
    SoundAt Tryd.prog J 30 [enV key day (.row 2 (l.map acV)), .str k, .int .i64 d] (.tup [enV k d (.vec 0), .int .i64 0]) [.vec 92 2 ((turnL l).map acV)] := by
  have hd' : (decide (0 ≤ d ∧ d ≤ 292193)) = true := decide_eq_true hd
  obtain ⟨h2, h12, hnn⟩ := lnChk_ok (enE_ok he)
  unfold enV
  refine evFn (l := [(28, at1 [.str k] (.bool (keyOk' k), [])), (36, dayF)]) (nv := nv0) (fz := fz0) (dr := dr30) (dd := dd30) (lam := []) ⟨at1_snd (rkey_sound hJ k hsz), day_snd hJ, trivial⟩ hJ trivial Tryd.func30 rfl rfl (Nat.le_of_ble_eq_true rfl) (Nat.le_of_ble_eq_true rfl) drOk30 ?_
  dsimp only [Tryd.f30, dr30, dd30, Option.getD_some]
  refine ev_start ?_
  simp (disch := omega) only [at1_eq, dayF_eq, hk, hd', go_sem, Int.reduceEq, Int.reduceLT, Int.reduceLE, Int.reduceNeg, Nat.reduceAdd, Nat.reduceLT, Nat.reduceEqDiff, Nat.reduceMul, Nat.reduceLeDiff, reduceIte, Nat.reduceBEq, reduceCtorEq, evP_D, evD_guard, evD_cons, evD_zero, evD_nil]
  refine evQ_loop [6, 8, 23, 24, 25] [48, 64, 304] (fun σ => ∃ j : Nat, j ≤ l.length ∧ ((j = 0 ∧ σ = ⟨[(6, .ptr 48 0), (8, .ptr 64 0), (23, .row 2 (l.map acV)), (24, .int .i64 l.length), (25, .int .i64 j)], [(48, .box (.agg [.str ByteArray.empty, .int .i64 0, .zero])), (64, .box (.agg [.str k, .int .i64 d, .zero]))]⟩) ∨
      (0 < j ∧ σ = ⟨[(6, .ptr 48 0), (8, .ptr 64 0), (23, .row 2 (l.map acV)), (24, .int .i64 l.length), (25, .int .i64 j)], [(48, .box (.agg [.str ByteArray.empty, .int .i64 0, .zero])), (64, .box (.agg [.str k, .int .i64 d, .vec 304])), (304, .vec 92 2 ((turnL (l.take j)).map acV))]⟩)))
    (fun σ => l.length - (match Ev.look 25 σ.env with | some (.int _ n) => n.toNat | _ => 0)) ?_ ?_
  · simp only [go_sem, Int.reduceEq, Int.reduceLT, Int.reduceLE, Int.reduceNeg, Nat.reduceAdd, Nat.reduceLT, Nat.reduceEqDiff, Nat.reduceMul, Nat.reduceLeDiff, reduceIte, Nat.reduceBEq, reduceCtorEq, evP_D, evD_guard, evD_cons, evD_zero, evD_nil]
    exact ⟨0, Nat.zero_le _, .inl ⟨rfl, rfl⟩⟩
  · rintro σ ⟨j, hj, hσ⟩
    by_cases hlt : j < l.length
    · have hlt' : (j : Int) < l.length := by omega
      obtain ⟨⟨c, n⟩, hcn⟩ : ∃ p, l[j]? = some p := ⟨_, List.getElem?_eq_getElem hlt⟩
      have hg := acV_get hcn
      have hn := hnn (c, n) (List.mem_of_getElem? hcn)
      simp only at hn
      have hst := turnL_step hcn
      have hms : l.length - ((j : Int) + 1).toNat < l.length - (j : Int).toNat := by
        have e3 : ((j : Int) + 1).toNat = j + 1 := by omega
        rw [e3, Int.toNat_natCast]; exact Nat.sub_lt_sub_left hlt (Nat.lt_succ_self j)
      have hlen2 : (turnL (l.take j)).length ≤ l.length := by unfold turnL; rw [List.length_map]; exact List.length_take_le' _ _
      rcases hσ with ⟨hj0, rfl⟩ | ⟨hj0, rfl⟩
      · subst hj0
        have z0 : ((0 : Nat) : Int) = 0 := rfl
        have hi0 := idx_nat l.length 0 hlt
        rw [z0] at hlt' hi0 hms ⊢
        simp (disch := (first | omega | assumption)) only [hlt', hi0, List.length_map, hg, go_sem, Int.reduceEq, Int.reduceLT, Int.reduceLE, Int.reduceNeg, Nat.reduceAdd, Nat.reduceLT, Nat.reduceEqDiff, Nat.reduceMul, Nat.reduceLeDiff, reduceIte, Nat.reduceBEq, reduceCtorEq, evP_D, evD_guard, evD_cons, evD_zero, evD_nil]
        exact ⟨⟨1, hlt, .inr ⟨by omega, by rw [hst]; rfl⟩⟩, hms⟩
      · simp (disch := (first | omega | assumption)) only [hlt', idx_nat, List.length_map, hg, go_sem, Int.reduceEq, Int.reduceLT, Int.reduceLE, Int.reduceNeg, Nat.reduceAdd, Nat.reduceLT, Nat.reduceEqDiff, Nat.reduceMul, Nat.reduceLeDiff, reduceIte, Nat.reduceBEq, reduceCtorEq, evP_D, evD_guard, evD_cons, evD_zero, evD_nil]
        exact ⟨⟨j + 1, hlt, .inr ⟨by omega, by rw [hst, List.map_append]; rfl⟩⟩, hms⟩
    · have hj' : j = l.length := by omega
      subst hj'
      have hlt' : ¬ ((l.length : Int) < l.length) := by omega
      rcases hσ with ⟨hj0, rfl⟩ | ⟨hj0, rfl⟩
      · omega
      · simp (disch := (first | omega | assumption)) only [hlt', List.take_length, go_sem, Int.reduceEq, Int.reduceLT, Int.reduceLE, Int.reduceNeg, Nat.reduceAdd, Nat.reduceLT, Nat.reduceEqDiff, Nat.reduceMul, Nat.reduceLeDiff, reduceIte, Nat.reduceBEq, reduceCtorEq, evP_D, evD_guard, evD_cons, evD_zero, evD_nil]
end Go.Proofs.YtdjdipehfnnhpaaDoor
