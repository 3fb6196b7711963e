/-
  slices.Repeat at one int, run by the machine: copies onto parts of a row of one's own.
-/
import Derived.Test.YtdjdipehfnnhpaaEvB
import Derived.Test.YtdjdipehfnnhpaaShN
namespace Go.Proofs.Ytdjdipehfnnhpaa
open Go Go.Ev Go.RowKit
set_option maxHeartbeats 4000000
set_option linter.unusedSimpArgs false
set_option linter.unusedVariables false
attribute [local go_sem] subE partR boundsV ownP sliceW copyV clearV lenM takeV tk1 mapsV mkMapV hintOk lookV updV mapKE keyOk V.key app_lend callW_fn lendV postL_ret postL_normal postT_ret postT_normal takeR St.lent mkX_L bin_eql_vz bin_eql_zv bin_eql_rz bin_eql_zr bin_eql_zz bin_neq_vz bin_neq_zv bin_neq_rz bin_neq_zr bin_neq_zz eqH nilEq nonE plainI gOf_bool gOf_skip g_some g_none Int.ofNat_zero Int.cast_ofNat_Int Bool.false_and Bool.and_false sliceV noBox elemsZ V.scrub V.scrubL Blk.scrub appendV isSlice maxLen_eq leT List.contains_nil List.contains_cons nvL_at fzL_at fillV V.plain V.plainL Blk.plain List.size_toArray mapO_nil mapO_cons Option.isNone_none Option.isNone_some beqT beqF oI_not mkX_e phi_nil phi_cons bin_eql_bool bin_neq_bool bin_eql_agg bin_neq_agg eqV eqFs eqK_int eqK_bool' eqK_str mkX_T mkX_Φ mkX_n mkX_f mkX_d mkX_r nv0_at fz0_at evQ_dr evP_W evW_nil evW_cons evW_guard okW_eq tame_none tame_new tame_write wb_none wb_new wb_write okU_some offW_none offW_some touchOf V.noRef V.noRefL Option.isSome_some Option.isSome_none mild_none mild_new Option.getD_some Option.getD_none evQ_seq evQ_region evQ_block evQ_cond evQ_ret evQ_skip evQ_exit evO_cons evO_nil evO_guard freezeL_nil oS_some oS_none oS_ite oS_ite' oB_bool oI_true oI_false oE_normal oE_exit oE_ret bQ_normal bQ_ret bQ_exit lQ_normal lQ_ret lQ_exit List.zipIdx_cons List.zipIdx_nil List.map_cons List.map_nil evalOp opd_const opd_tmp opd_func ofC_int ofC_bool ofC_str ofC_nil app_none app_new app_write app_change putE_some putE_none setA_cons setA_nil setH_cons setH_nil mapA_cons mapA_nil look_cons look_nil e_mk h_mk drop_nil drop_mk keep_mk dstOk_some dstOk_none guardT_eq true_and and_true Bool.not_false Bool.not_true selB_true selB_false mem_nil mem_cons kpL_nil kpL_cons drL_nil drL_cons closed_mk V.refsIn V.refsInL Blk.refsIn List.all_cons List.all_nil lenV bin_add bin_sub bin_mul bin_quo bin_rem bin_eql bin_neq bin_lss bin_leq bin_gtr bin_geq un_neg un_not post_ret post_normal St.init Bool.false_eq_true List.length_map Bool.or_false Bool.or_true Bool.false_or Bool.true_or beq_self_eq_true Option.map_some Option.map_none Option.bind_some List.getElem?_cons_zero List.getElem?_cons_succ scalar stor isAggV V.cells List.cons_append List.nil_append if_true if_false wrap_of callV V.dataL V.data Bool.and_true Bool.true_and fresh names V.ren V.renL retV resV packL packV packC getBlks wrapR subV putV decide_true decide_false TK.agg List.length_cons List.length_nil List.take_succ_cons List.take_zero List.drop_succ_cons List.drop_zero List.take_nil List.drop_nil Nat.zero_add Nat.add_zero List.append_nil List.getElem?_nil elemsV ro ro0 ro1 roC ty2 ty3 ty4 ty5 ty6 ty7 ty8 ty9 ty10 ty11 ty12 ty13 ty14 ty18 ty19 ty21 ty24 ty25 ty33 ty34 ty35 ty36 ty41 ty42 ty43 ty45 ty46 ty53 ty63 ty64 ty69 ty74 ty77 ty78 ty96 ty98 ty108 ty115 ty142 ty143 ty148 ty149 ty152 ty153 ty154 ty155 eqs46 eqs64 eqs78
def mulF : List V → Option (V × List Blk)
  | [.int .u64 a, .int .u64 b] => if 0 ≤ a ∧ a ≤ 40 ∧ 0 ≤ b ∧ b ≤ 1000 then some (.tup [.int .u64 0, .int .u64 (a * b)], []) else none
  | _ => none
theorem mulF_eq {a b : Int} (h : 0 ≤ a ∧ a ≤ 40 ∧ 0 ≤ b ∧ b ≤ 1000) : mulF [.int .u64 a, .int .u64 b] = some (.tup [.int .u64 0, .int .u64 (a * b)], []) := if_pos h
theorem mul_snd {J : World → Prop} : Snd Try.prog J 37 mulF := by
  intro args r bs h
  unfold mulF at h
  split at h
  · rename_i a b
    split at h
    · rename_i hc
      obtain ⟨rfl, rfl⟩ := some_pair h
      obtain ⟨x, rfl⟩ : ∃ x : Nat, a = x := ⟨a.toNat, by omega⟩
      obtain ⟨y, rfl⟩ : ∃ y : Nat, b = y := ⟨b.toNat, by omega⟩
      have hxy : x * y ≤ 40 * 1000 := Nat.mul_le_mul (by omega) (by omega)
      refine sound_plain (callOk Try.func37 rfl rfl) rfl rfl fun w _ => (show Calls Try.prog 37 _ w _ from Any.bits_Mul Try.lays212 x y (by omega) (by omega) w).mono ?_
      rintro e w' ⟨rfl, rfl⟩
      have h1 : x * y / 18446744073709551616 = 0 := Nat.div_eq_of_lt (by omega)
      have h2 : x * y % 18446744073709551616 = x * y := Nat.mod_eq_of_lt (by omega)
      rw [h1, h2, Int.natCast_mul]
      exact ⟨rfl, .refl _ _⟩
    · cases h
  · cases h
/-- the first n of c are written -/
def rpR (x : Int) (n c : Nat) : List V := List.replicate n (.int .i64 x) ++ List.replicate (c - n) (.int .i64 0)
theorem rpR_len {x : Int} {n c : Nat} (h : n ≤ c) : (rpR x n c).length = c := by simp [rpR]; omega
theorem rpR_zero (x : Int) (c : Nat) : rpR x 0 c = List.replicate c (.int .i64 0) := by simp [rpR]
theorem rpR_all (x : Int) (c : Nat) : rpR x c c = List.replicate c (.int .i64 x) := by simp [rpR]
theorem rpR_step {x : Int} {n m c : Nat} (hm : m ≤ n) (_ : n + m ≤ c) : (rpR x n c).take n ++ (((rpR x n c).take n).take m) ++ (rpR x n c).drop (n + m) = rpR x (n + m) c := by
  unfold rpR
  have h1 : (List.replicate n (V.int .i64 x)).length = n := by simp
  rw [List.take_left' h1, List.take_replicate, Nat.min_eq_left hm, List.replicate_append_replicate, ← List.drop_drop, List.drop_left' h1, List.drop_replicate]
  congr 2
  omega
theorem rep_sound {J : World → Prop} (hJ : Stable J) (x : Int) (c : Nat) (hc : c ≤ 1000) : SoundAt Try.prog J 13 [.row 1 [.int .i64 x], .int .i64 c] (.vec 0) [.vec 3 1 (List.replicate c (.int .i64 x))] := by
  refine evFn (l := [(37, mulF)]) (nv := nv0) (fz := fz0) (dr := dr13) (dd := dd13) (lam := []) ⟨mul_snd, trivial⟩ hJ trivial Try.func13 rfl rfl (Nat.le_of_ble_eq_true rfl) (Nat.le_of_ble_eq_true rfl) drOk13 ?_
  dsimp only [Try.f13, dr13, dd13, Option.getD_some]
  refine ev_start ?_
  have h0 : ¬ (c : Int) < 0 := by omega
  have hm : maxLen = 9223372036854775807 := rfl
  have w1 : IntKind.u64.wrap 1 = 1 := rfl
  have wc : IntKind.u64.wrap (c : Int) = c := by simp [IntKind.wrap, IntKind.bits, IntKind.signed]; omega
  have wd : IntKind.i64.wrap (c : Int) = c := by simp [IntKind.wrap, IntKind.bits, IntKind.signed]; omega
  have hmu : mulF [V.int .u64 1, V.int .u64 c] = some (.tup [.int .u64 0, .int .u64 c], []) := by rw [mulF_eq (by omega), Int.one_mul]
  have f1 : (0 : Int) ≤ c := by omega
  have f2 : (c : Int) * 8 ≤ 140737488355328 := by omega
  have f3 : (c : Int) ≤ 9223372036854775807 := by omega
  have g1 : ¬ (9223372036854775807 : Int) < c := by omega
  by_cases p1 : c = 0
  · subst p1
    have z0 : ((0 : Nat) : Int) = 0 := rfl
    rw [z0] at hmu wc
    simp (disch := omega) only [z0, w1, wc, hmu, makeV, Int.reduceMul, Int.reduceLE, Int.reduceLT, Int.toNat_natCast, Int.toNat_zero, List.replicate_zero, List.length_replicate, List.length_cons, List.length_nil, go_sem, Int.reduceEq, Int.reduceLT, Int.reduceLE, Int.reduceNeg, Nat.reduceAdd, Nat.reduceLT, Nat.reduceEqDiff, Nat.reduceMul, Nat.reduceLeDiff, reduceIte, Nat.reduceBEq, reduceCtorEq, evP_D, evD_guard, evD_cons, evD_zero, evD_nil]
    refine evQ_loop [7, 8] [240] (fun σ => σ = ⟨[(7, .vec 240), (8, .int .i64 0)], [(240, .vec 3 1 [])]⟩) (fun _ => 0) ?_ ?_
    · simp only [go_sem, Int.reduceEq, Int.reduceLT, Int.reduceLE, Int.reduceNeg, Nat.reduceAdd, Nat.reduceLT, Nat.reduceEqDiff, Nat.reduceMul, Nat.reduceLeDiff, reduceIte, Nat.reduceBEq, reduceCtorEq, evP_D, evD_guard, evD_cons, evD_zero, evD_nil]
    · rintro σ rfl
      simp (disch := omega) only [z0, List.length_nil, Int.lt_irrefl, List.replicate_zero, go_sem, Int.reduceEq, Int.reduceLT, Int.reduceLE, Int.reduceNeg, Nat.reduceAdd, Nat.reduceLT, Nat.reduceEqDiff, Nat.reduceMul, Nat.reduceLeDiff, reduceIte, Nat.reduceBEq, reduceCtorEq, evP_D, evD_guard, evD_cons, evD_zero, evD_nil]
  have p0 : 0 < c := by omega
  have pm : min 1 c = 1 := by omega
  simp (disch := omega) only [h0, w1, wc, wd, hmu, makeV, f1, f2, f3, g1, p0, p1, pm, Int.toNat_natCast, List.length_replicate, List.length_cons, List.length_nil, Nat.zero_add, Nat.le_refl, go_sem, Int.reduceEq, Int.reduceLT, Int.reduceLE, Int.reduceNeg, Nat.reduceAdd, Nat.reduceLT, Nat.reduceEqDiff, Nat.reduceMul, Nat.reduceLeDiff, reduceIte, Nat.reduceBEq, reduceCtorEq, evP_D, evD_guard, evD_cons, evD_zero, evD_nil]
  refine evQ_loop [7, 8] [240] (fun σ => ∃ (n : Nat), (n ≤ c ∧ 0 < n) ∧ σ = ⟨[(7, .vec 240), (8, .int .i64 n)], [(240, .vec 3 1 (rpR x n c))]⟩)
    (fun σ => c - (match Ev.look 8 σ.env with | some (.int _ n) => n.toNat | _ => 0)) ?_ ?_
  · simp only [go_sem, Int.reduceEq, Int.reduceLT, Int.reduceLE, Int.reduceNeg, Nat.reduceAdd, Nat.reduceLT, Nat.reduceEqDiff, Nat.reduceMul, Nat.reduceLeDiff, reduceIte, Nat.reduceBEq, reduceCtorEq, evP_D, evD_guard, evD_cons, evD_zero, evD_nil]
    exact ⟨1, ⟨by omega, by omega⟩, by rw [List.drop_replicate]; rfl⟩
  · rintro σ ⟨n, ⟨hn, hn0⟩, rfl⟩
    have hl := rpR_len (x := x) hn
    by_cases hlt : n < c
    · have hlt' : (n : Int) < c := by omega
      have b1 : (0 : Int) ≤ n ∧ (n : Int) ≤ c := by omega
      have q1 : (List.take (c - n) (List.drop n (rpR x n c))).length = c - n := by rw [List.length_take, List.length_drop, hl]; omega
      have q2 : (List.take n (rpR x n c)).length = n := by rw [List.length_take, hl]; omega
      have q3 : ¬ c - n = 0 := by omega
      have st := rpR_step (x := x) (n := n) (m := min n (c - n)) (c := c) (by omega) (by omega)
      have e3 : (n : Int) + ((min n (c - n) : Nat) : Int) = ((n + min n (c - n) : Nat) : Int) := rfl
      simp (disch := (first | omega | assumption)) only [hlt', hl, b1, p0, q1, q2, q3, st, e3, Nat.sub_zero, Int.toNat_natCast, go_sem, Int.reduceEq, Int.reduceLT, Int.reduceLE, Int.reduceNeg, Nat.reduceAdd, Nat.reduceLT, Nat.reduceEqDiff, Nat.reduceMul, Nat.reduceLeDiff, reduceIte, Nat.reduceBEq, reduceCtorEq, evP_D, evD_guard, evD_cons, evD_zero, evD_nil]
      have m1 : 0 < min n (c - n) := by omega
      have m3 : n + min n (c - n) ≤ c := by omega
      exact ⟨⟨n + min n (c - n), ⟨m3, Nat.lt_of_lt_of_le hn0 (Nat.le_add_right _ _)⟩, rfl⟩, Nat.sub_lt_sub_left hlt (Nat.lt_add_of_pos_right m1)⟩
    · have hnc : n = c := by omega
      subst hnc
      have hlt' : ¬ (n : Int) < n := by omega
      have e1 := rpR_all x n
      simp (disch := (first | omega | assumption)) only [hlt', hl, go_sem, Int.reduceEq, Int.reduceLT, Int.reduceLE, Int.reduceNeg, Nat.reduceAdd, Nat.reduceLT, Nat.reduceEqDiff, Nat.reduceMul, Nat.reduceLeDiff, reduceIte, Nat.reduceBEq, reduceCtorEq, evP_D, evD_guard, evD_cons, evD_zero, evD_nil]
      rw [e1]
end Go.Proofs.Ytdjdipehfnnhpaa
