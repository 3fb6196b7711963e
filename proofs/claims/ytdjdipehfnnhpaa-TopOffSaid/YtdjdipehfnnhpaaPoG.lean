/-
  Entries put into books, run by the machine: copies that are one's own, Post.
-/
import Derived.Test.YtdjdipehfnnhpaaBkI
import Derived.Test.YtdjdipehfnnhpaaPoF
import Derived.Test.YtdjdipehfnnhpaaInsE
namespace Go.Ev
open Go Go.RowKit
set_option linter.unusedVariables false
/-- a function that takes a row, at nil: what it gives back is a row of one's own -/
theorem take_zero {P : Program} {J : World → Prop} {f : FuncId} {T : TypeId} {sz : Nat} {as1 es' : List V} (hJJ : Stable J) (hpos : 0 < sz) (h : TakeAt P J f T sz [] as1 es') (hd : ∀ a ∈ as1, V.data a = true) : SoundAt P J f (.zero :: as1) (.vec 0) [.vec T sz es'] := by
  refine ⟨h.1, fun w ok vals hJ hok hlen hrel => ?_⟩
  match vals, hlen with
  | sv0 :: vals', hlen =>
    have h0 := hrel 0 _ sv0 rfl rfl
    cases h0
    have hI : Inv ok w.heap.size w (fun _ => none) (fun _ => none) := ⟨Nat.le_refl _, (fun b k hk => by cases hk), (fun b sv hr => by cases hr), (fun b b' sv sv' g h1 => by cases h1)⟩
    have hR := RoQ.all hI
    refine (h.2 w w.heap.size (fun g => g < w.heap.size) (okAt ok w.heap.size (fun _ => none) w) (.slice none 0 0) vals' (fun w' hb => hJJ w w' hJ hb) (Nat.le_refl _) (fun g hg => ⟨hg, by simp [own]⟩) (fun g hg => okAt_lt (Nat.le_refl _) hg) rfl hpos ⟨[], rfl, by simp, by simp, by simp, .inl ⟨none, rfl, rfl⟩⟩ (by simpa using hlen) fun j c u hc hu => ?_).mono ?_
    · have hx := hrel (j + 1) c u (by simpa using hc) (by simpa using hu)
      have hc' := hd c (List.mem_of_getElem? hc)
      refine tk_rel hI hR (v := c) (.ro (hx.mono fun g hg => ⟨.inl ⟨hok g hg, hg⟩, rfl⟩)) ?_
      cases c <;> simp_all [tk1, V.data]
    · rintro e w' ⟨sv', rfl, hb, hkeep, hsz, hown', hone, hO⟩
      have key : ∀ b sv, one 0 sv' b = some sv → b = 0 ∧ sv = sv' := by
        intro b sv hs
        unfold Ev.one at hs
        split at hs
        · rename_i e; simp at hs; exact ⟨e, hs.symm⟩
        · cases hs
      refine ⟨sv', one 0 sv', rfl, hb, ⟨hb.size, ?_, ?_, ?_⟩, .vec 0 sv' (by simp [one]) hone⟩
      · intro b k hk
        match b with
        | 0 =>
          simp at hk
          subst hk
          refine ⟨sv', by simp [one], hpos, hO.mono (fun g hg => ⟨?_, rfl⟩) fun _ _ => rfl⟩
          rcases hg with h | ⟨h1, h2, _⟩
          · exact .inl h
          · omega
        | b + 1 => simp at hk
      · intro b sv hs
        obtain ⟨rfl, rfl⟩ := key b sv hs
        exact ⟨_, rfl⟩
      · intro b b' sv s2 g h1 h2 _ _
        rw [(key b sv h1).1, (key b' s2 h2).1]
noncomputable def take1 (T : TypeId) (sz : Nat) (es as1 es' : List V) : TypeId → Nat → List V → List V → Option (List V) := fun T' sz' es0 as0 => open Classical in if T' = T ∧ sz' = sz ∧ es0 = es ∧ as0 = as1 then some es' else none
theorem take1_eq (T : TypeId) (sz : Nat) (es as1 es' : List V) : take1 T sz es as1 es' T sz es as1 = some es' := by unfold take1; rw [if_pos ⟨rfl, rfl, rfl, rfl⟩]
theorem take1_ok {P : Program} {J : World → Prop} {f : FuncId} {T : TypeId} {sz : Nat} {es as1 es' : List V} {l : Lam} (h : TakeAt P J f T sz es as1 es') (hl : LamOk P J l) : LamOk P J ((f, (true, take1 T sz es as1 es')) :: l) := by
  refine ⟨fun T' sz' e0 a0 e1 he => ?_, hl⟩
  unfold take1 at he
  simp only at he
  split at he
  · rename_i hc
    obtain ⟨rfl, rfl, rfl, rfl⟩ := hc
    simp only [Option.some.injEq] at he
    subst he
    exact h
  · cases he
end Go.Ev
namespace Go.Proofs.Ytdjdipehfnnhpaa
open Go Go.Ev Go.RowKit Go.Acc
set_option maxHeartbeats 4000000
set_option linter.unusedSimpArgs false
set_option linter.unusedVariables false
attribute [local go_sem] subE partR boundsV ownP sliceW copyV clearV lenM takeV tk1 mapsV mkMapV hintOk lookV updV mapKE keyOk V.key app_lend callW_fn lendV postL_ret postL_normal postT_ret postT_normal takeR St.lent mkX_L bin_eql_vz bin_eql_zv bin_eql_rz bin_eql_zr bin_eql_zz bin_neq_vz bin_neq_zv bin_neq_rz bin_neq_zr bin_neq_zz eqH nilEq nonE plainI gOf_bool gOf_skip g_some g_none Int.ofNat_zero Int.cast_ofNat_Int Bool.false_and Bool.and_false sliceV noBox elemsZ V.scrub V.scrubL Blk.scrub appendV isSlice maxLen_eq leT List.contains_nil List.contains_cons nvL_at fzL_at fillV V.plain V.plainL Blk.plain List.size_toArray mapO_nil mapO_cons Option.isNone_none Option.isNone_some beqT beqF oI_not mkX_e phi_nil phi_cons bin_eql_bool bin_neq_bool bin_eql_agg bin_neq_agg eqV eqFs eqK_int eqK_bool' eqK_str mkX_T mkX_Φ mkX_n mkX_f mkX_d mkX_r nv0_at fz0_at evQ_dr evP_W evW_nil evW_cons evW_guard okW_eq tame_none tame_new tame_write wb_none wb_new wb_write okU_some offW_none offW_some touchOf V.noRef V.noRefL Option.isSome_some Option.isSome_none mild_none mild_new Option.getD_some Option.getD_none evQ_seq evQ_region evQ_block evQ_cond evQ_ret evQ_skip evQ_exit evO_cons evO_nil evO_guard freezeL_nil oS_some oS_none oS_ite oS_ite' oB_bool oI_true oI_false oE_normal oE_exit oE_ret bQ_normal bQ_ret bQ_exit lQ_normal lQ_ret lQ_exit List.zipIdx_cons List.zipIdx_nil List.map_cons List.map_nil evalOp opd_const opd_tmp opd_func ofC_int ofC_bool ofC_str ofC_nil app_none app_new app_write app_change putE_some putE_none setA_cons setA_nil setH_cons setH_nil mapA_cons mapA_nil look_cons look_nil e_mk h_mk drop_nil drop_mk keep_mk dstOk_some dstOk_none guardT_eq true_and and_true Bool.not_false Bool.not_true selB_true selB_false mem_nil mem_cons kpL_nil kpL_cons drL_nil drL_cons closed_mk V.refsIn V.refsInL Blk.refsIn List.all_cons List.all_nil lenV bin_add bin_sub bin_mul bin_quo bin_rem bin_eql bin_neq bin_lss bin_leq bin_gtr bin_geq un_neg un_not post_ret post_normal St.init Bool.false_eq_true List.length_map Bool.or_false Bool.or_true Bool.false_or Bool.true_or beq_self_eq_true Option.map_some Option.map_none Option.bind_some List.getElem?_cons_zero List.getElem?_cons_succ scalar stor isAggV V.cells List.cons_append List.nil_append if_true if_false wrap_of callV V.dataL V.data Bool.and_true Bool.true_and fresh names V.ren V.renL retV resV packL packV packC getBlks wrapR subV putV decide_true decide_false TK.agg List.length_cons List.length_nil List.take_succ_cons List.take_zero List.drop_succ_cons List.drop_zero List.take_nil List.drop_nil Nat.zero_add Nat.add_zero List.append_nil List.getElem?_nil elemsV ro ro0 ro1 roC ty2 ty3 ty4 ty5 ty6 ty7 ty8 ty9 ty10 ty11 ty12 ty13 ty14 ty18 ty19 ty21 ty24 ty25 ty33 ty34 ty35 ty36 ty41 ty42 ty43 ty45 ty46 ty53 ty63 ty64 ty69 ty74 ty77 ty78 ty96 ty98 ty108 ty115 ty142 ty143 ty148 ty149 ty152 ty153 ty154 ty155 eqs46 eqs64 eqs78
set_option maxHeartbeats 4000000 in
theorem copied_own {J : World → Prop} (hJ : Stable J) (A : List (ByteArray × Int)) (x0 : En) (r0 : List En) (s : Int) (hA : A.length ≤ 24) (hE : ∀ x ∈ x0 :: r0, x.2.2.length ≤ 12) (hl : (x0 :: r0).length ≤ 60) :
    SoundAt Try.prog J 48 [bkV A (x0 :: r0) s] (.agg [.row 2 (A.map acV), .vec 0, .int .i64 s]) [.vec 43 3 ((x0 :: r0).map enW)] := by
  generalize hEE : x0 :: r0 = E at *
  unfold bkV
  refine evFn (l := [(50, cloneF), (80, cloneF)]) (nv := nv0) (fz := fz0) (dr := dr48) (dd := dd48) (lam := []) ⟨cloneL_snd hJ, cloneA_snd hJ, trivial⟩ hJ trivial Try.func48 rfl rfl (Nat.le_of_ble_eq_true rfl) (Nat.le_of_ble_eq_true rfl) drOk48 ?_
  dsimp only [Try.f48, dr48, dd48, Option.getD_some]
  refine ev_start ?_
  have hcA := cloneF_eq A (by omega)
  simp (disch := omega) only [List.length_map, hcA, freezeL, go_sem, Int.reduceEq, Int.reduceLT, Int.reduceLE, Int.reduceNeg, Nat.reduceAdd, Nat.reduceLT, Nat.reduceEqDiff, Nat.reduceMul, Nat.reduceLeDiff, reduceIte, Nat.reduceBEq, reduceCtorEq, evP_D, evD_guard, evD_cons, evD_zero, evD_nil]
  refine evQ_loop [2, 3, 13, 14, 15] [16, 24, 216] (fun σ => ∃ (k : Nat), k ≤ E.length ∧ σ = cpS A E s k)
    (fun σ => E.length - (match Ev.look 15 σ.env with | some (.int _ n) => n.toNat | _ => 0)) ?_ ?_
  · simp only [go_sem, Int.reduceEq, Int.reduceLT, Int.reduceLE, Int.reduceNeg, Nat.reduceAdd, Nat.reduceLT, Nat.reduceEqDiff, Nat.reduceMul, Nat.reduceLeDiff, reduceIte, Nat.reduceBEq, reduceCtorEq, evP_D, evD_guard, evD_cons, evD_zero, evD_nil]
    exact ⟨0, Nat.zero_le _, rfl⟩
  · rintro σ ⟨k, hkl, rfl⟩
    by_cases hlt : k < E.length
    · have hlt' : (k : Int) < E.length := by omega
      obtain ⟨⟨c, d, l⟩, hcn⟩ : ∃ p, E[k]? = some p := ⟨_, List.getElem?_eq_getElem hlt⟩
      have hcl := cloneF_eq l (by have := hE _ (List.mem_of_getElem? hcn); simp only at this; omega)
      have hg := enW_get hcn
      have ht := take_enW hcn
      have hms : E.length - ((k : Int) + 1).toNat < E.length - (k : Int).toNat := by
        have e3 : ((k : Int) + 1).toNat = k + 1 := by omega
        rw [e3, Int.toNat_natCast]; exact Nat.sub_lt_sub_left hlt (Nat.lt_succ_self k)
      cases k with
      | zero =>
        have z0 : ((0 : Nat) : Int) = 0 := rfl
        have hi0 := idx_nat E.length 0 hlt
        rw [z0] at hlt' hi0 hms
        unfold cpS
        simp (disch := (first | omega | assumption)) only [hlt', hi0, List.length_map, hg, hcl, freezeL, go_sem, Int.reduceEq, Int.reduceLT, Int.reduceLE, Int.reduceNeg, Nat.reduceAdd, Nat.reduceLT, Nat.reduceEqDiff, Nat.reduceMul, Nat.reduceLeDiff, reduceIte, Nat.reduceBEq, reduceCtorEq, evP_D, evD_guard, evD_cons, evD_zero, evD_nil]
        exact ⟨⟨1, hlt, by simp only [cpS, ht]; rfl⟩, hms⟩
      | succ k =>
        have hlk : (E.take (k + 1)).length = k + 1 := by rw [List.length_take]; omega
        unfold cpS
        simp (disch := (first | omega | assumption)) only [hlt', idx_nat, List.length_map, hlk, List.length_append, List.length_cons, List.length_nil, hg, hcl, freezeL, go_sem, Int.reduceEq, Int.reduceLT, Int.reduceLE, Int.reduceNeg, Nat.reduceAdd, Nat.reduceLT, Nat.reduceEqDiff, Nat.reduceMul, Nat.reduceLeDiff, reduceIte, Nat.reduceBEq, reduceCtorEq, evP_D, evD_guard, evD_cons, evD_zero, evD_nil]
        exact ⟨⟨k + 2, hlt, by simp only [cpS, ht]; rfl⟩, hms⟩
    · have hk' : k = E.length := by omega
      subst hk'
      subst hEE
      have hlt'' : ¬ (((r0.length + 1 : Nat) : Int) < ((r0.length + 1 : Nat) : Int)) := by omega
      have htk : (x0 :: r0).take (r0.length + 1) = x0 :: r0 := List.take_length (l := x0 :: r0)
      simp only [List.length_cons, cpS]
      simp (disch := (first | omega | assumption)) only [hlt'', htk, freezeL, go_sem, Int.reduceEq, Int.reduceLT, Int.reduceLE, Int.reduceNeg, Nat.reduceAdd, Nat.reduceLT, Nat.reduceEqDiff, Nat.reduceMul, Nat.reduceLeDiff, reduceIte, Nat.reduceBEq, reduceCtorEq, evP_D, evD_guard, evD_cons, evD_zero, evD_nil]
end Go.Proofs.Ytdjdipehfnnhpaa
