/-
  The machine's contracts of functions over rows of ints: roundings, equality, search by a function, parts of a sum.
-/
import Derived.Test.YtdjdipehfnnhpaaEvA
import Derived.Test.YtdjdipehfnnhpaaRounded
namespace Go.Proofs.Ytdjdipehfnnhpaa
open Go Go.Ev Go.RowKit
set_option maxHeartbeats 4000000
set_option linter.unusedSimpArgs false
set_option linter.unusedVariables false
attribute [local go_sem] subE partR boundsV ownP sliceW copyV clearV lenM takeV tk1 mapsV mkMapV hintOk lookV updV mapKE keyOk V.key app_lend callW_fn lendV postL_ret postL_normal postT_ret postT_normal takeR St.lent mkX_L bin_eql_vz bin_eql_zv bin_eql_rz bin_eql_zr bin_eql_zz bin_neq_vz bin_neq_zv bin_neq_rz bin_neq_zr bin_neq_zz eqH nilEq nonE plainI gOf_bool gOf_skip g_some g_none Int.ofNat_zero Int.cast_ofNat_Int Bool.false_and Bool.and_false sliceV noBox elemsZ V.scrub V.scrubL Blk.scrub appendV isSlice maxLen_eq leT List.contains_nil List.contains_cons nvL_at fzL_at fillV V.plain V.plainL Blk.plain List.size_toArray mapO_nil mapO_cons Option.isNone_none Option.isNone_some beqT beqF oI_not mkX_e phi_nil phi_cons bin_eql_bool bin_neq_bool bin_eql_agg bin_neq_agg eqV eqFs eqK_int eqK_bool' eqK_str mkX_T mkX_Φ mkX_n mkX_f mkX_d mkX_r nv0_at fz0_at evQ_dr evP_W evW_nil evW_cons evW_guard okW_eq tame_none tame_new tame_write wb_none wb_new wb_write okU_some offW_none offW_some touchOf V.noRef V.noRefL Option.isSome_some Option.isSome_none mild_none mild_new Option.getD_some Option.getD_none evQ_seq evQ_region evQ_block evQ_cond evQ_ret evQ_skip evQ_exit evO_cons evO_nil evO_guard freezeL_nil oS_some oS_none oS_ite oS_ite' oB_bool oI_true oI_false oE_normal oE_exit oE_ret bQ_normal bQ_ret bQ_exit lQ_normal lQ_ret lQ_exit List.zipIdx_cons List.zipIdx_nil List.map_cons List.map_nil evalOp opd_const opd_tmp opd_func ofC_int ofC_bool ofC_str ofC_nil app_none app_new app_write app_change putE_some putE_none setA_cons setA_nil setH_cons setH_nil mapA_cons mapA_nil look_cons look_nil e_mk h_mk drop_nil drop_mk keep_mk dstOk_some dstOk_none guardT_eq true_and and_true Bool.not_false Bool.not_true selB_true selB_false mem_nil mem_cons kpL_nil kpL_cons drL_nil drL_cons closed_mk V.refsIn V.refsInL Blk.refsIn List.all_cons List.all_nil lenV bin_add bin_sub bin_mul bin_quo bin_rem bin_eql bin_neq bin_lss bin_leq bin_gtr bin_geq un_neg un_not post_ret post_normal St.init Bool.false_eq_true List.length_map Bool.or_false Bool.or_true Bool.false_or Bool.true_or beq_self_eq_true Option.map_some Option.map_none Option.bind_some List.getElem?_cons_zero List.getElem?_cons_succ scalar stor isAggV V.cells List.cons_append List.nil_append if_true if_false wrap_of callV V.dataL V.data Bool.and_true Bool.true_and fresh names V.ren V.renL retV resV packL packV packC getBlks wrapR subV putV decide_true decide_false TK.agg List.length_cons List.length_nil List.take_succ_cons List.take_zero List.drop_succ_cons List.drop_zero List.take_nil List.drop_nil Nat.zero_add Nat.add_zero List.append_nil List.getElem?_nil elemsV ro ro0 ro1 roC ty2 ty3 ty4 ty5 ty6 ty7 ty8 ty9 ty10 ty11 ty12 ty13 ty14 ty18 ty19 ty21 ty24 ty25 ty33 ty34 ty35 ty36 ty41 ty42 ty43 ty45 ty46 ty53 ty63 ty64 ty69 ty74 ty77 ty78 ty96 ty98 ty108 ty115 ty142 ty143 ty148 ty149 ty152 ty153 ty154 ty155 eqs46 eqs64 eqs78
def unI : List V → Option (List Int)
  | [] => some []
  | .int .i64 n :: l => (unI l).map fun r => n :: r
  | _ => none
theorem unI_map : ∀ l : List Int, unI (l.map (V.int .i64)) = some l
  | [] => rfl
  | p :: l => by rw [List.map_cons, unI, unI_map l]; rfl
theorem unI_eq : ∀ {es : List V} {l : List Int}, unI es = some l → es = l.map (V.int .i64)
  | [], l, h => by simp [unI] at h; subst h; rfl
  | e :: es, l, h => by
    unfold unI at h
    split at h
    · rename_i he; cases he
    · rename_i n es' he
      simp only [List.cons.injEq] at he
      obtain ⟨rfl, rfl⟩ := he
      simp only [Option.map_eq_some_iff] at h
      obtain ⟨r, hr, rfl⟩ := h
      rw [unI_eq hr]; rfl
    · cases h
/-- a row of ints, nil too -/
def rowIs : V → Option (List Int)
  | .row 1 es => unI es
  | .zero => some []
  | _ => none
theorem rowIs_row (l : List Int) : rowIs (.row 1 (l.map (V.int .i64))) = some l := unI_map l
theorem rowIs_zero : rowIs .zero = some [] := rfl
theorem rowIs_rel {v : V} {l : List Int} (h : rowIs v = some l) {w : World} {ok : Nat → Prop} {val : Value} (hv : RelD w ok v val) : RelD w ok (.row 1 (l.map (V.int .i64))) val := by
  unfold rowIs at h
  split at h
  · rw [← unI_eq h]; exact hv
  · simp at h; subst h
    cases hv
    exact .nil _ _
  · cases h
def rndF : List V → Option (V × List Blk)
  | [.int .i64 n, .int .i64 d, .int .i64 way] => if -4000000000000000000 ≤ n ∧ n ≤ 4000000000000000000 ∧ 1 ≤ d ∧ d ≤ 4000000000000000000 ∧ 0 ≤ way ∧ way ≤ 3 then some (.int .i64 (Rnd.rnd n d way), []) else none
  | _ => none
theorem rndF_eq {n d way : Int} (h : -4000000000000000000 ≤ n ∧ n ≤ 4000000000000000000 ∧ 1 ≤ d ∧ d ≤ 4000000000000000000 ∧ 0 ≤ way ∧ way ≤ 3) : rndF [.int .i64 n, .int .i64 d, .int .i64 way] = some (.int .i64 (Rnd.rnd n d way), []) := by
  unfold rndF; simp only [h, and_self, if_true]
theorem rounded_snd {J : World → Prop} : Snd Try.prog J 35 rndF := by
  intro args r bs h
  unfold rndF at h
  split at h
  · rename_i n d way
    split at h
    · rename_i hc
      obtain ⟨rfl, rfl⟩ := some_pair h
      refine sound_plain (callOk Try.func35 rfl rfl) rfl rfl fun w _ => (rounded_any n d way w hc.1 hc.2.1 hc.2.2.1 hc.2.2.2.1 hc.2.2.2.2.1 hc.2.2.2.2.2).mono ?_
      rintro e w' ⟨he, k, rfl⟩
      exact ⟨he, below_drewN (.refl _ _) k⟩
    · cases h
  · cases h
def eqIF : List V → Option (V × List Blk)
  | [x, y] => match rowIs x, rowIs y with
    | some xs, some ys => some (.bool (decide (xs = ys)), [])
    | _, _ => none
  | _ => none
theorem eqIF_eq {x y : V} {xs ys : List Int} (hx : rowIs x = some xs) (hy : rowIs y = some ys) : eqIF [x, y] = some (.bool (decide (xs = ys)), []) := by unfold eqIF; simp only [hx, hy]
theorem eqIF_rows (xs ys : List Int) : eqIF [.row 1 (xs.map (V.int .i64)), .row 1 (ys.map (V.int .i64))] = some (.bool (decide (xs = ys)), []) := eqIF_eq (rowIs_row xs) (rowIs_row ys)
theorem eqI_sound {J : World → Prop} (hJ : Stable J) (xs ys : List Int) : SoundAt Try.prog J 25 [.row 1 (xs.map (V.int .i64)), .row 1 (ys.map (V.int .i64))] (.bool (decide (xs = ys))) [] := by
  refine SoundAt.row 0 rfl (callOk Try.func25 rfl rfl) fun hlen => ?_
  simp only [maxLen, List.length_map] at hlen
  refine evFn (l := []) (nv := nv0) (fz := fz0) (dr := dr25) (dd := dd25) (lam := []) trivial hJ trivial Try.func25 rfl rfl (Nat.le_of_ble_eq_true rfl) (Nat.le_of_ble_eq_true rfl) drOk25 ?_
  dsimp only [Try.f25, dr25, dd25, Option.getD_some]
  refine ev_start ?_
  by_cases hl : xs.length = ys.length
  · have hl' : (xs.length : Int) = ys.length := by omega
    simp (disch := omega) only [hl', go_sem, Int.reduceEq, Int.reduceLT, Int.reduceLE, Int.reduceNeg, Nat.reduceAdd, Nat.reduceLT, Nat.reduceEqDiff, Nat.reduceMul, Nat.reduceLeDiff, reduceIte, Nat.reduceBEq, reduceCtorEq, evP_D, evD_guard, evD_cons, evD_zero, evD_nil]
    refine evQ_loop [0, 1, 12, 13] [] (fun σ => ∃ k : Nat, (k ≤ ys.length ∧ xs.take k = ys.take k) ∧ σ = ⟨[(0, .row 1 (xs.map (V.int .i64))), (1, .row 1 (ys.map (V.int .i64))), (12, .int .i64 ys.length), (13, .int .i64 k)], []⟩) (fun σ => ys.length - (match Ev.look 13 σ.env with | some (.int _ n) => n.toNat | _ => 0)) ?_ ?_
    · simp only [go_sem, Int.reduceEq, Int.reduceLT, Int.reduceLE, Int.reduceNeg, Nat.reduceAdd, Nat.reduceLT, Nat.reduceEqDiff, Nat.reduceMul, Nat.reduceLeDiff, reduceIte, Nat.reduceBEq, reduceCtorEq, evP_D, evD_guard, evD_cons, evD_zero, evD_nil]
      exact ⟨0, ⟨Nat.zero_le _, rfl⟩, rfl⟩
    · rintro σ ⟨k, ⟨hk, hd⟩, rfl⟩
      by_cases hlt : k < ys.length
      · have hlt' : (k : Int) < ys.length := by omega
        have hg : xs[k]? = some xs[k] := List.getElem?_eq_getElem (by omega)
        have hg2 : ys[k]? = some ys[k] := List.getElem?_eq_getElem hlt
        by_cases he : xs[k] = ys[k]
        · simp (disch := (first | omega | assumption)) only [hlt', idx_nat, List.getElem?_map, hg, hg2, he, go_sem, Int.reduceEq, Int.reduceLT, Int.reduceLE, Int.reduceNeg, Nat.reduceAdd, Nat.reduceLT, Nat.reduceEqDiff, Nat.reduceMul, Nat.reduceLeDiff, reduceIte, Nat.reduceBEq, reduceCtorEq, evP_D, evD_guard, evD_cons, evD_zero, evD_nil]
          exact ⟨⟨k + 1, ⟨hlt, by rw [List.take_succ_eq_append_getElem (by omega), List.take_succ_eq_append_getElem hlt, hd, he]⟩, rfl⟩, by show ys.length - ((k : Int) + 1).toNat < ys.length - (k : Int).toNat; omega⟩
        · have hne : xs ≠ ys := by intro h; subst h; exact he rfl
          simp (disch := (first | omega | assumption)) only [hlt', idx_nat, List.getElem?_map, hg, hg2, he, hne, go_sem, Int.reduceEq, Int.reduceLT, Int.reduceLE, Int.reduceNeg, Nat.reduceAdd, Nat.reduceLT, Nat.reduceEqDiff, Nat.reduceMul, Nat.reduceLeDiff, reduceIte, Nat.reduceBEq, reduceCtorEq, evP_D, evD_guard, evD_cons, evD_zero, evD_nil]
      · have hk' : k = ys.length := by omega
        subst hk'
        have hlt' : ¬ ((ys.length : Int) < ys.length) := by omega
        have he : xs = ys := by rw [← hl, List.take_length, hl, List.take_length] at hd; exact hd
        simp (disch := (first | omega | assumption)) only [hlt', he, go_sem, Int.reduceEq, Int.reduceLT, Int.reduceLE, Int.reduceNeg, Nat.reduceAdd, Nat.reduceLT, Nat.reduceEqDiff, Nat.reduceMul, Nat.reduceLeDiff, reduceIte, Nat.reduceBEq, reduceCtorEq, evP_D, evD_guard, evD_cons, evD_zero, evD_nil]
  · have hl' : ¬ (xs.length : Int) = ys.length := by omega
    have hne : xs ≠ ys := by intro h; subst h; exact hl rfl
    simp (disch := omega) only [hl', hne, go_sem, Int.reduceEq, Int.reduceLT, Int.reduceLE, Int.reduceNeg, Nat.reduceAdd, Nat.reduceLT, Nat.reduceEqDiff, Nat.reduceMul, Nat.reduceLeDiff, reduceIte, Nat.reduceBEq, reduceCtorEq, evP_D, evD_guard, evD_cons, evD_zero, evD_nil]
theorem eqI_snd {J : World → Prop} (hJ : Stable J) : Snd Try.prog J 25 eqIF := by
  intro args r bs h
  unfold eqIF at h
  split at h
  · split at h
    · rename_i x y xs ys hx hy
      obtain ⟨rfl, rfl⟩ := some_pair h
      refine (eqI_sound hJ xs ys).weaken rfl fun w ok j c c' val hc hc' hv => ?_
      match j with
      | 0 => simp at hc hc'; subst hc; subst hc'; exact rowIs_rel hx hv
      | 1 => simp at hc hc'; subst hc; subst hc'; exact rowIs_rel hy hv
      | _ + 2 => simp at hc
    · cases h
  · cases h
/-- the steps of a sum -/
def steps (F : Int → Int) (n : Nat) : List Int := (List.range n).map fun k : Nat => F ((k : Int) + 1) - F (k : Int)
theorem steps_succ (F : Int → Int) (k : Nat) : steps F (k + 1) = steps F k ++ [F ((k : Int) + 1) - F (k : Int)] := by
  simp [steps, List.range_succ]
theorem steps_len (F : Int → Int) (k : Nat) : (steps F k).length = k := by simp [steps]
end Go.Proofs.Ytdjdipehfnnhpaa
