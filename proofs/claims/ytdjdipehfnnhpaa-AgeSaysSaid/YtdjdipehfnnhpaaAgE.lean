/-
  What is owed, run by the machine: copies, what is struck out, payments, the search among bounds.
-/
import Derived.Test.YtdjdipehfnnhpaaAgP
import Derived.Test.YtdjdipehfnnhpaaSitG
import Derived.Shelf.Slices.Empties
namespace Go.Proofs.Ytdjdipehfnnhpaa
open Go Go.Ev Go.RowKit Go.Tie Go.Spl Go.Srt Go.Lib
set_option maxHeartbeats 4000000
set_option linter.unusedSimpArgs false
set_option linter.unusedVariables false
attribute [local go_sem] subE partR boundsV ownP sliceW copyV clearV lenM takeV tk1 mapsV mkMapV hintOk lookV updV mapKE keyOk V.key app_lend callW_fn lendV postL_ret postL_normal postT_ret postT_normal takeR St.lent mkX_L bin_eql_vz bin_eql_zv bin_eql_rz bin_eql_zr bin_eql_zz bin_neq_vz bin_neq_zv bin_neq_rz bin_neq_zr bin_neq_zz eqH nilEq nonE plainI gOf_bool gOf_skip g_some g_none Int.ofNat_zero Int.cast_ofNat_Int Bool.false_and Bool.and_false sliceV noBox elemsZ V.scrub V.scrubL Blk.scrub appendV isSlice maxLen_eq leT List.contains_nil List.contains_cons nvL_at fzL_at fillV V.plain V.plainL Blk.plain List.size_toArray mapO_nil mapO_cons Option.isNone_none Option.isNone_some beqT beqF oI_not mkX_e phi_nil phi_cons bin_eql_bool bin_neq_bool bin_eql_agg bin_neq_agg eqV eqFs eqK_int eqK_bool' eqK_str mkX_T mkX_Φ mkX_n mkX_f mkX_d mkX_r nv0_at fz0_at evQ_dr evP_W evW_nil evW_cons evW_guard okW_eq tame_none tame_new tame_write wb_none wb_new wb_write okU_some offW_none offW_some touchOf V.noRef V.noRefL Option.isSome_some Option.isSome_none mild_none mild_new Option.getD_some Option.getD_none evQ_seq evQ_region evQ_block evQ_cond evQ_ret evQ_skip evQ_exit evO_cons evO_nil evO_guard freezeL_nil oS_some oS_none oS_ite oS_ite' oB_bool oI_true oI_false oE_normal oE_exit oE_ret bQ_normal bQ_ret bQ_exit lQ_normal lQ_ret lQ_exit List.zipIdx_cons List.zipIdx_nil List.map_cons List.map_nil evalOp opd_const opd_tmp opd_func ofC_int ofC_bool ofC_str ofC_nil app_none app_new app_write app_change putE_some putE_none setA_cons setA_nil setH_cons setH_nil mapA_cons mapA_nil look_cons look_nil e_mk h_mk drop_nil drop_mk keep_mk dstOk_some dstOk_none guardT_eq true_and and_true Bool.not_false Bool.not_true selB_true selB_false mem_nil mem_cons kpL_nil kpL_cons drL_nil drL_cons closed_mk V.refsIn V.refsInL Blk.refsIn List.all_cons List.all_nil lenV bin_add bin_sub bin_mul bin_quo bin_rem bin_eql bin_neq bin_lss bin_leq bin_gtr bin_geq un_neg un_not post_ret post_normal St.init Bool.false_eq_true List.length_map Bool.or_false Bool.or_true Bool.false_or Bool.true_or beq_self_eq_true Option.map_some Option.map_none Option.bind_some List.getElem?_cons_zero List.getElem?_cons_succ scalar stor isAggV V.cells List.cons_append List.nil_append if_true if_false wrap_of callV V.dataL V.data Bool.and_true Bool.true_and fresh names V.ren V.renL retV resV packL packV packC getBlks wrapR subV putV decide_true decide_false TK.agg List.length_cons List.length_nil List.take_succ_cons List.take_zero List.drop_succ_cons List.drop_zero List.take_nil List.drop_nil Nat.zero_add Nat.add_zero List.append_nil List.getElem?_nil elemsV ro ro0 ro1 roC ty2 ty3 ty4 ty5 ty6 ty7 ty8 ty9 ty10 ty11 ty12 ty13 ty14 ty18 ty19 ty21 ty24 ty25 ty33 ty34 ty35 ty36 ty41 ty42 ty43 ty45 ty46 ty53 ty63 ty64 ty69 ty74 ty77 ty78 ty96 ty98 ty108 ty115 ty142 ty143 ty148 ty149 ty152 ty153 ty154 ty155 eqs46 eqs64 eqs78
theorem sound_resT {P : Program} {J : World → Prop} {f : FuncId} {args : List V} {r r' : V} (h : SoundAt P J f args r []) (hd : V.data r = true) (hr : ∀ (w : World) (ok : Nat → Prop) val, RelD w ok r val → RelD w ok r' val) : SoundAt P J f args r' [] := by
  refine ⟨h.1, fun w ok us hJ hok hlen hrel => (h.2 w ok us hJ hok hlen hrel).mono ?_⟩
  rintro e w' ⟨val, ρr, he, hb, hi, hrr⟩
  exact ⟨val, ρr, he, hb, hi, .ro (hr _ _ _ (hrr.toD hd))⟩
theorem zero_rowT (sz : Nat) (w : World) (ok : Nat → Prop) (val : Value) (h : RelD w ok .zero val) : RelD w ok (.row sz []) val := by
  cases h
  exact .nil _ _
theorem bin_eql_rawT (v : Value) : binV .eql (.raw v) .zero = none := rfl
/-- a function of one empty row: nil, or not nil -/
theorem sound_emptyT {P : Program} {J : World → Prop} {f : FuncId} {sz : Nat} {r : V} {bs : List Blk} (h0 : SoundAt P J f [.zero] r bs) (h1 : ∀ a c, SoundAt P J f [.raw (.slice (some a) 0 c)] r bs) : SoundAt P J f [.row sz []] r bs := by
  refine ⟨h0.1, fun w ok us hJ hok hlen hrel => ?_⟩
  match us, hlen with
  | [u], _ =>
    have hu := hrel 0 _ u rfl rfl
    cases hu with
    | nil _ a =>
      cases a with
      | none =>
        exact h0.2 w ok _ hJ hok rfl fun j c v hc hv => by
          match j with
          | 0 => simp at hc hv; subst hc; subst hv; exact .zero
          | j + 1 => simp at hc
      | some a =>
        exact (h1 a 0).2 w ok _ hJ hok rfl fun j c v hc hv => by
          match j with
          | 0 => simp at hc hv; subst hc; subst hv; exact .raw _
          | j + 1 => simp at hc
    | row _ _ g o cap vs =>
      exact (h1 ⟨g, o, none⟩ cap).2 w ok _ hJ hok rfl fun j c v hc hv => by
          match j with
          | 0 => simp at hc hv; subst hc; subst hv; exact .raw _
          | j + 1 => simp at hc
theorem cloneT_nil {J : World → Prop} (hJ : Stable J) : SoundAt Try.prog J 64 [.row 2 []] (.row 2 []) [] := by
  refine sound_emptyT ?_ (fun a c => ?_)
  · refine sound_resT (r := .zero) ?_ rfl (zero_rowT 2)
    refine evFn (l := []) (nv := nv0) (fz := fzL [(2, [40])]) (dr := dr64) (dd := dd64) (lam := []) trivial hJ trivial Try.func64 rfl rfl (Nat.le_of_ble_eq_true rfl) (Nat.le_of_ble_eq_true rfl) drOk64 ?_
    dsimp only [Try.f64, dr64, dd64, Option.getD_some]
    refine ev_start ?_
    simp (disch := omega) only [bin_eql_rawT, freezeL, St.freeze, List.filter_cons, List.filter_nil, bne, go_sem, Int.reduceEq, Int.reduceLT, Int.reduceLE, Int.reduceNeg, Nat.reduceAdd, Nat.reduceLT, Nat.reduceEqDiff, Nat.reduceMul, Nat.reduceLeDiff, reduceIte, Nat.reduceBEq, reduceCtorEq, evP_D, evD_guard, evD_cons, evD_zero, evD_nil]
  · skip
    refine evFn (l := []) (nv := nv0) (fz := fzL [(2, [40])]) (dr := dr64) (dd := dd64) (lam := []) trivial hJ trivial Try.func64 rfl rfl (Nat.le_of_ble_eq_true rfl) (Nat.le_of_ble_eq_true rfl) drOk64 ?_
    dsimp only [Try.f64, dr64, dd64, Option.getD_some]
    refine ev_start ?_
    simp (disch := omega) only [bin_eql_rawT, freezeL, St.freeze, List.filter_cons, List.filter_nil, bne, go_sem, Int.reduceEq, Int.reduceLT, Int.reduceLE, Int.reduceNeg, Nat.reduceAdd, Nat.reduceLT, Nat.reduceEqDiff, Nat.reduceMul, Nat.reduceLeDiff, reduceIte, Nat.reduceBEq, reduceCtorEq, evP_D, evD_guard, evD_cons, evD_zero, evD_nil]
theorem cloneT_sound {J : World → Prop} (hJ : Stable J) (p : It) (l : List It) (hl : (p :: l).length ≤ 1000) : SoundAt Try.prog J 64 [.row 2 ((p :: l).map itV)] (.vec 0) [.vec 64 2 ((p :: l).map itV)] := by
  refine evFn (l := []) (nv := nv0) (fz := fz0) (dr := dr64) (dd := dd64) (lam := []) trivial hJ trivial Try.func64 rfl rfl (Nat.le_of_ble_eq_true rfl) (Nat.le_of_ble_eq_true rfl) drOk64 ?_
  dsimp only [Try.f64, dr64, dd64, Option.getD_some]
  refine ev_start ?_
  have h1 : 0 < l.length + 1 := by omega
  rw [List.length_cons] at hl
  simp (disch := omega) only [h1, List.length_map, List.length_cons, go_sem, Int.reduceEq, Int.reduceLT, Int.reduceLE, Int.reduceNeg, Nat.reduceAdd, Nat.reduceLT, Nat.reduceEqDiff, Nat.reduceMul, Nat.reduceLeDiff, reduceIte, Nat.reduceBEq, reduceCtorEq, evP_D, evD_guard, evD_cons, evD_zero, evD_nil]
def idxT (p : It → Bool) (l : List It) : Int := if l.any p = true then ((l.findIdx p : Nat) : Int) else -1
theorem indexT_sound {J : World → Prop} (hJ : Stable J) (g : FuncId) (G : List V → Option (V × List Blk)) (hG : Snd Try.prog J g G) (p : It → Bool) (l : List It) (hp : ∀ x : It, G [.agg [.int .i64 x.1, .int .i64 x.2]] = some (.bool (p x), [])) :
    SoundAt Try.prog J 91 [.row 2 (l.map itV), .fn g []] (.int .i64 (idxT p l)) [] := by
  refine SoundAt.row 0 rfl (callOk Try.func91 rfl rfl) fun hlen => ?_
  simp only [maxLen, List.length_map] at hlen
  refine evFn (l := [(g, G)]) (nv := nv0) (fz := fz0) (dr := dr91) (dd := dd91) (lam := []) ⟨hG, trivial⟩ hJ trivial Try.func91 rfl rfl (Nat.le_of_ble_eq_true rfl) (Nat.le_of_ble_eq_true rfl) drOk91 ?_
  dsimp only [Try.f91, dr91, dd91, Option.getD_some]
  refine ev_start ?_
  simp (disch := omega) only [List.length_map, go_sem, Int.reduceEq, Int.reduceLT, Int.reduceLE, Int.reduceNeg, Nat.reduceAdd, Nat.reduceLT, Nat.reduceEqDiff, Nat.reduceMul, Nat.reduceLeDiff, reduceIte, Nat.reduceBEq, reduceCtorEq, evP_D, evD_guard, evD_cons, evD_zero, evD_nil]
  refine evQ_loop [0, 1, 7, 8] [] (fun σ => ∃ k : Nat, (k ≤ l.length ∧ ∀ i x, i < k → l[i]? = some x → p x = false) ∧ σ = ⟨[(0, .row 2 (l.map itV)), (1, .fn g []), (7, .int .i64 l.length), (8, .int .i64 k)], []⟩) (fun σ => l.length - (match Ev.look 8 σ.env with | some (.int _ n) => n.toNat | _ => 0)) ?_ ?_
  · simp only [go_sem, Int.reduceEq, Int.reduceLT, Int.reduceLE, Int.reduceNeg, Nat.reduceAdd, Nat.reduceLT, Nat.reduceEqDiff, Nat.reduceMul, Nat.reduceLeDiff, reduceIte, Nat.reduceBEq, reduceCtorEq, evP_D, evD_guard, evD_cons, evD_zero, evD_nil]
    exact ⟨0, ⟨Nat.zero_le _, fun _ _ h => by omega⟩, rfl⟩
  · rintro σ ⟨k, ⟨hk, hall⟩, rfl⟩
    by_cases hlt : k < l.length
    · have hlt' : (k : Int) < l.length := by omega
      have hgl := it_get hlt
      have hg := itV_get hlt
      have hpk := hp (dy l k, am l k)
      simp only at hpk
      cases hb : p (dy l k, am l k) with
      | true =>
        rw [hb] at hpk
        have hany : l.any p = true := List.any_eq_true.2 ⟨_, List.mem_of_getElem? hgl, hb⟩
        have he := (List.getElem?_eq_some_iff.1 hgl).2
        have hidx : l.findIdx p = k := (List.findIdx_eq hlt).2 ⟨by rw [he]; exact hb, fun j hj => hall j _ hj (List.getElem?_eq_getElem (by omega))⟩
        simp (disch := (first | omega | assumption)) only [hlt', idx_nat, List.length_map, hg, hpk, V.dataL, V.data, idxT, hany, hidx, go_sem, Int.reduceEq, Int.reduceLT, Int.reduceLE, Int.reduceNeg, Nat.reduceAdd, Nat.reduceLT, Nat.reduceEqDiff, Nat.reduceMul, Nat.reduceLeDiff, reduceIte, Nat.reduceBEq, reduceCtorEq, evP_D, evD_guard, evD_cons, evD_zero, evD_nil]
      | false =>
        rw [hb] at hpk
        simp (disch := (first | omega | assumption)) only [hlt', idx_nat, List.length_map, hg, hpk, V.dataL, V.data, go_sem, Int.reduceEq, Int.reduceLT, Int.reduceLE, Int.reduceNeg, Nat.reduceAdd, Nat.reduceLT, Nat.reduceEqDiff, Nat.reduceMul, Nat.reduceLeDiff, reduceIte, Nat.reduceBEq, reduceCtorEq, evP_D, evD_guard, evD_cons, evD_zero, evD_nil]
        exact ⟨⟨k + 1, ⟨hlt, fun i x hi hx => by
          by_cases e : i = k
          · subst e; rw [hgl] at hx; cases hx; exact hb
          · exact hall i x (by omega) hx⟩, rfl⟩, by show l.length - ((k : Int) + 1).toNat < l.length - (k : Int).toNat; omega⟩
    · have hk' : k = l.length := by omega
      subst hk'
      have hlt' : ¬ ((l.length : Int) < l.length) := by omega
      have hany : l.any p = false := by
        rw [List.any_eq_false]
        intro x hx
        obtain ⟨i, hi, rfl⟩ := List.mem_iff_getElem.1 hx
        simp [hall i _ hi (List.getElem?_eq_getElem hi)]
      simp (disch := (first | omega | assumption)) only [hlt', idxT, hany, Bool.false_eq_true, if_false, go_sem, Int.reduceEq, Int.reduceLT, Int.reduceLE, Int.reduceNeg, Nat.reduceAdd, Nat.reduceLT, Nat.reduceEqDiff, Nat.reduceMul, Nat.reduceLeDiff, reduceIte, Nat.reduceBEq, reduceCtorEq, evP_D, evD_guard, evD_cons, evD_zero, evD_nil]
def pay1F : List V → Option (V × List Blk)
  | [.agg [.int .i64 d, .int .i64 _], .agg [.int .i64 d', .int .i64 _]] => if (0 ≤ d ∧ d ≤ 292193) ∧ 0 ≤ d' ∧ d' ≤ 292193 then some (.int .i64 (d - d'), []) else none
  | _ => none
theorem pay1_snd {J : World → Prop} (hJ : Stable J) : Snd Try.prog J 66 pay1F := by
  intro args r bs h
  unfold pay1F at h
  split at h
  · split at h
    · rename_i hc
      obtain ⟨rfl, rfl⟩ := some_pair h
      refine evFn (l := []) (nv := nv0) (fz := fz0) (dr := dr66) (dd := dd66) (lam := []) trivial hJ trivial Try.func66 rfl rfl (Nat.le_of_ble_eq_true rfl) (Nat.le_of_ble_eq_true rfl) drOk66 ?_
      dsimp only [Try.f66, dr66, dd66, Option.getD_some]
      refine ev_start ?_
      simp (disch := omega) only [go_sem, Int.reduceEq, Int.reduceLT, Int.reduceLE, Int.reduceNeg, Nat.reduceAdd, Nat.reduceLT, Nat.reduceEqDiff, Nat.reduceMul, Nat.reduceLeDiff, reduceIte, Nat.reduceBEq, reduceCtorEq, evP_D, evD_guard, evD_cons, evD_zero, evD_nil]
    · cases h
  · cases h
def pay2F : List V → Option (V × List Blk)
  | [.agg [.int .i64 _, .int .i64 a]] => some (.bool (decide (a = 0)), [])
  | _ => none
theorem pay2_snd {J : World → Prop} (hJ : Stable J) : Snd Try.prog J 68 pay2F := by
  intro args r bs h
  unfold pay2F at h
  split at h
  · obtain ⟨rfl, rfl⟩ := some_pair h
    refine evFn (l := []) (nv := nv0) (fz := fz0) (dr := dr68) (dd := dd68) (lam := []) trivial hJ trivial Try.func68 rfl rfl (Nat.le_of_ble_eq_true rfl) (Nat.le_of_ble_eq_true rfl) drOk68 ?_
    dsimp only [Try.f68, dr68, dd68, Option.getD_some]
    refine ev_start ?_
    simp (disch := omega) only [go_sem, Int.reduceEq, Int.reduceLT, Int.reduceLE, Int.reduceNeg, Nat.reduceAdd, Nat.reduceLT, Nat.reduceEqDiff, Nat.reduceMul, Nat.reduceLeDiff, reduceIte, Nat.reduceBEq, reduceCtorEq, evP_D, evD_guard, evD_cons, evD_zero, evD_nil]
  · cases h
theorem find_keep {L : List It} {i : Nat} (h : L.findIdx (fun x => decide (x.2 = 0)) = i) : (L.take i).filter keep = L.take i := by
  refine List.filter_eq_self.2 fun x hx => ?_
  obtain ⟨j, hj, rfl⟩ := List.mem_iff_getElem.1 hx
  rw [List.length_take] at hj
  have := List.not_of_lt_findIdx (p := fun x : It => decide (x.2 = 0)) (xs := L) (i := j) (by omega)
  rw [List.getElem_take]
  unfold keep
  simpa using this
set_option maxRecDepth 100000 in
theorem delT_take {J : World → Prop} (hJ : Stable J) (L : List It) (hL : L.length ≤ 1000) :
    TakeAt Try.prog J 67 64 2 (L.map itV) [.fn 68 []] ((L.filter keep).map itV) := by
  have hI := indexT_sound hJ 68 pay2F (pay2_snd hJ) (fun x => decide (x.2 = 0)) L (fun x => rfl)
  refine evTake (l := [(68, pay2F), (91, at1 _ (_, []))]) (nv := nv0) (fz := fz0) (dr := dr67) (dd := dd67) (lam := []) ⟨pay2_snd hJ, at1_snd hI, trivial⟩ hJ trivial Try.func67 rfl rfl (Nat.le_of_ble_eq_true rfl) (Nat.le_of_ble_eq_true rfl) drOk67 rfl rfl ?_ ?_
  rotate_left
  dsimp only [Try.f67, dr67, dd67, Option.getD_some]
  refine ev_start ?_
  · by_cases hany : L.any (fun x => decide (x.2 = 0)) = true
    case neg =>
      have e1 : idxT (fun x => decide (x.2 = 0)) L = -1 := by unfold idxT; rw [if_neg hany]
      have e2 : L.filter keep = L := List.filter_eq_self.2 fun x hx => by
        rw [Bool.not_eq_true, List.any_eq_false] at hany
        have := hany x hx
        unfold keep
        simpa using this
      simp (disch := omega) only [at1_eq, e1, e2, go_sem, Int.reduceEq, Int.reduceLT, Int.reduceLE, Int.reduceNeg, Nat.reduceAdd, Nat.reduceLT, Nat.reduceEqDiff, Nat.reduceMul, Nat.reduceLeDiff, reduceIte, Nat.reduceBEq, reduceCtorEq, evP_D, evD_guard, evD_cons, evD_zero, evD_nil]
    obtain ⟨i, hi⟩ : ∃ i, i = L.findIdx (fun x => decide (x.2 = 0)) := ⟨_, rfl⟩
    have e1 : idxT (fun x => decide (x.2 = 0)) L = i := by unfold idxT; rw [if_pos hany, hi]
    have hil : i < L.length := by
      rw [hi]
      obtain ⟨x, hx, hx2⟩ := List.any_eq_true.1 hany
      exact List.findIdx_lt_length_of_exists ⟨x, hx, hx2⟩
    have hk0 := find_keep hi.symm
    have hki : (L.take (i + 1)).filter keep = L.take i := by
      have hz := List.findIdx_getElem (p := fun x : It => decide (x.2 = 0)) (xs := L) (w := by rw [← hi]; exact hil)
      have hz' : keep L[i] = false := by
        unfold keep
        subst hi
        simpa using hz
      rw [List.take_succ_eq_append_getElem hil, List.filter_append, hk0, List.filter_cons_of_neg (by simp [hz']), List.filter_nil, List.append_nil]
    have hne : ¬ (i : Int) = -1 := by omega
    simp (disch := omega) only [at1_eq, e1, hne, List.length_map, go_sem, Int.reduceEq, Int.reduceLT, Int.reduceLE, Int.reduceNeg, Nat.reduceAdd, Nat.reduceLT, Nat.reduceEqDiff, Nat.reduceMul, Nat.reduceLeDiff, reduceIte, Nat.reduceBEq, reduceCtorEq, evP_D, evD_guard, evD_cons, evD_zero, evD_nil]
    refine evQ_loop [0, 1, 5, 6] [1000000] (fun σ => ∃ (i j : Nat) (M : List It), (i < j ∧ j ≤ L.length ∧ M.length = L.length ∧ M.take i = (L.take j).filter keep ∧ M.drop j = L.drop j ∧ i = ((L.take j).filter keep).length) ∧
      σ = ⟨[(0, .vec 1000000), (1, .fn 68 []), (5, .int .i64 i), (6, .int .i64 j)], [(1000000, .vec 64 2 (M.map itV))]⟩)
      (fun σ => L.length - (match Ev.look 6 σ.env with | some (.int _ n) => n.toNat | _ => 0)) ?_ ?_
    · simp only [go_sem, Int.reduceEq, Int.reduceLT, Int.reduceLE, Int.reduceNeg, Nat.reduceAdd, Nat.reduceLT, Nat.reduceEqDiff, Nat.reduceMul, Nat.reduceLeDiff, reduceIte, Nat.reduceBEq, reduceCtorEq, evP_D, evD_guard, evD_cons, evD_zero, evD_nil]
      exact ⟨i, i + 1, L, ⟨by omega, by omega, rfl, hki.symm, rfl, by rw [hki, List.length_take]; omega⟩, rfl⟩
    · clear hi e1 hil hk0 hki hne
      rintro σ ⟨i, j, M, ⟨hij, hj, hM, hpre, hpost, hilen⟩, rfl⟩
      by_cases hlt : j < L.length
      · have hlt' : (j : Int) < L.length := by omega
        have hgl := it_get hlt
        have hgM : (M.map itV)[j]? = some (.agg [.int .i64 (dy L j), .int .i64 (am L j)]) := by
          have h1 : M[j]? = L[j]? := by
            have := congrArg (fun l => l[0]?) hpost
            simpa using this
          rw [List.getElem?_map, h1, hgl]; rfl
        have hLj := (List.getElem?_eq_some_iff.1 hgl).2
        have hms : L.length - ((j : Int) + 1).toNat < L.length - (j : Int).toNat := by
          have e3 : ((j : Int) + 1).toNat = j + 1 := by omega
          rw [e3, Int.toNat_natCast]; omega
        have hMlt : i < M.length := by omega
        by_cases hz : am L j = 0
        · have hp2 : pay2F [.agg [.int .i64 (dy L j), .int .i64 (am L j)]] = some (.bool true, []) := by
            show some (V.bool (decide (am L j = 0)), []) = _
            rw [decide_eq_true hz]
          have hkp : keep (dy L j, am L j) = false := by unfold keep; simp [hz]
          have hf : (L.take (j + 1)).filter keep = (L.take j).filter keep := by
            rw [List.take_succ_eq_append_getElem hlt, hLj, List.filter_append, List.filter_cons_of_neg (by simp [hkp]), List.filter_nil, List.append_nil]
          simp (disch := (first | omega | assumption)) only [hlt', idx_nat, List.length_map, hM, hgM, hp2, go_sem, Int.reduceEq, Int.reduceLT, Int.reduceLE, Int.reduceNeg, Nat.reduceAdd, Nat.reduceLT, Nat.reduceEqDiff, Nat.reduceMul, Nat.reduceLeDiff, reduceIte, Nat.reduceBEq, reduceCtorEq, evP_D, evD_guard, evD_cons, evD_zero, evD_nil]
          exact ⟨⟨i, j + 1, M, ⟨by omega, by omega, hM, by rw [hf]; exact hpre, by rw [← List.drop_drop, hpost, List.drop_drop], by rw [hf]; exact hilen⟩, rfl⟩, hms⟩
        · have hp2 : pay2F [.agg [.int .i64 (dy L j), .int .i64 (am L j)]] = some (.bool false, []) := by
            show some (V.bool (decide (am L j = 0)), []) = _
            rw [decide_eq_false hz]
          have hkp : keep (dy L j, am L j) = true := by unfold keep; simp [hz]
          have hf : (L.take (j + 1)).filter keep = (L.take j).filter keep ++ [(dy L j, am L j)] := by
            rw [List.take_succ_eq_append_getElem hlt, hLj, List.filter_append, List.filter_cons_of_pos hkp, List.filter_nil]
          obtain ⟨z, hz1⟩ : ∃ z, M[i]? = some z := ⟨_, List.getElem?_eq_getElem hMlt⟩
          have hz2 := get_map itV M i z hz1
          have hset := setit M i (dy L j, am L j)
          simp only at hset
          simp (disch := (first | omega | assumption)) only [hlt', idx_nat, List.length_map, hM, hgM, hp2, hz2, itV, hset, go_sem, Int.reduceEq, Int.reduceLT, Int.reduceLE, Int.reduceNeg, Nat.reduceAdd, Nat.reduceLT, Nat.reduceEqDiff, Nat.reduceMul, Nat.reduceLeDiff, reduceIte, Nat.reduceBEq, reduceCtorEq, evP_D, evD_guard, evD_cons, evD_zero, evD_nil]
          refine ⟨⟨i + 1, j + 1, M.set i (dy L j, am L j), ⟨by omega, by omega, by simpa using hM, ?_, ?_, by rw [hf, List.length_append, ← hilen]; rfl⟩, rfl⟩, hms⟩
          · rw [hf, ← hpre, List.take_succ_eq_append_getElem (by simpa using hMlt), List.getElem_set_self, List.take_set_of_le (Nat.le_refl _)]
          · rw [List.drop_set_of_lt (by omega), ← List.drop_drop, hpost, List.drop_drop]
      · have hj' : j = L.length := by omega
        subst hj'
        have hlt' : ¬ ((L.length : Int) < L.length) := by omega
        have hfull : L.take L.length = L := List.take_length
        rw [hfull] at hpre hilen
        have hiL : i ≤ L.length := by omega
        have g0 : (0 : Int) ≤ i := by omega
        have g1 : (i : Int) ≤ L.length := by omega
        have g2 : 0 < L.length := by omega
        have g3 : ¬ L.length - i = 0 := by omega
        have g4 : (List.take (L.length - i) (List.drop i (M.map itV))).length = L.length - i := by
          rw [List.length_take, List.length_drop, List.length_map, hM]; omega
        obtain ⟨W, hW⟩ : ∃ W : List V, W = List.take i (M.map itV) ++ List.replicate (L.length - i) (V.agg [.int .i64 0, .int .i64 0]) ++ List.drop (i + (L.length - i)) (M.map itV) := ⟨_, rfl⟩
        have hWl : W.length = L.length := by
          rw [hW]
          simp only [List.length_append, List.length_take, List.length_replicate, List.length_drop, List.length_map, hM]
          omega
        have hWt : W.take i = (L.filter keep).map itV := by
          rw [hW, List.append_assoc, List.take_left' (by rw [List.length_take, List.length_map]; omega), ← List.map_take, hpre]
        simp (disch := (first | omega | assumption)) only [hlt', List.length_map, hM, g0, g1, g2, g3, g4, ← hW, hWl, hWt, hiL, Nat.zero_add, Nat.sub_zero, Int.toNat_natCast, and_self, go_sem, Int.reduceEq, Int.reduceLT, Int.reduceLE, Int.reduceNeg, Nat.reduceAdd, Nat.reduceLT, Nat.reduceEqDiff, Nat.reduceMul, Nat.reduceLeDiff, reduceIte, Nat.reduceBEq, reduceCtorEq, evP_D, evD_guard, evD_cons, evD_zero, evD_nil]
  · intro e he
    obtain ⟨x, _, rfl⟩ := List.mem_map.1 he
    rfl
end Go.Proofs.Ytdjdipehfnnhpaa
