/-
  FracSays' law, run by the machine: its callees' contracts (of the elder kind) and the walk.
-/
import Derived.Test.YthndfckapbbbfaaEvA
import Derived.Test.YthndfckapbbbfaaFracM
namespace Go.Proofs.Ythndfckapbbbfaa
set_option linter.unusedSimpArgs false
set_option linter.unusedVariables false
open Go Go.Ev Go.RowKit
theorem chk_same (n d : Int) : fchk n d = chk n d := rfl
/-- three ints as a fraction and an error -/
def t3 (t : Int × Int × Int) : V := .tup [.agg [.int .i64 t.1, .int .i64 t.2.1], .int .i64 t.2.2]
theorem t3_eq (t : Int × Int × Int) : t3 t = .tup [.agg [.int .i64 t.1, .int .i64 t.2.1], .int .i64 t.2.2] := rfl
def checkF : List V → Option (V × List Blk)
  | [.agg [.int .i64 n, .int .i64 d]] => some (.int .i64 (chk n d), [])
  | _ => none
theorem checkF_eq (n d : Int) : checkF [.agg [.int .i64 n, .int .i64 d]] = some (.int .i64 (chk n d), []) := rfl
theorem check_snd {J : World → Prop} : Snd Try.prog J 30 checkF := by
  intro args r bs h
  unfold checkF at h
  split at h
  · rename_i n d
    obtain ⟨rfl, rfl⟩ := some_pair h
    refine sound_plain (callOk Try.func30 rfl rfl) rfl rfl fun w _ => (check_any n d w).mono ?_
    rintro e w' ⟨he, rfl⟩
    exact ⟨he, (Below.refl _ _).alloc (Nat.le_refl _) _⟩
  · cases h
def nrm (n d : Int) : Int × Int × Int := if chk n d = 0 then (Gcd.ln n d, Gcd.ld n d, 0) else (0, 0, chk n d)
def normF : List V → Option (V × List Blk)
  | [.agg [.int .i64 n, .int .i64 d]] => some (t3 (nrm n d), [])
  | _ => none
theorem normF_eq (n d : Int) : normF [.agg [.int .i64 n, .int .i64 d]] = some (t3 (nrm n d), []) := rfl
theorem norm_snd {J : World → Prop} : Snd Try.prog J 27 normF := by
  intro args r bs h
  unfold normF at h
  split at h
  · rename_i n d
    obtain ⟨rfl, rfl⟩ := some_pair h
    by_cases hc : chk n d = 0
    · rw [nrm, if_pos hc]
      exact sound_plain (callOk Try.func27 rfl rfl) rfl rfl fun w _ => fnorm_ok n d w hc
    · rw [nrm, if_neg hc]
      exact sound_plain (callOk Try.func27 rfl rfl) rfl rfl fun w _ => fnorm_bad n d _ w rfl hc
  · cases h
def addv (n d m c : Int) : Int × Int × Int := if chk2 n d m c = 0 then tl (n * c + m * d) (d * c) else (0, 0, chk2 n d m c)
theorem both_ok {n d m c : Int} (h : chk2 n d m c = 0) : chk n d = 0 ∧ chk m c = 0 := by
  unfold chk2 at h
  split at h
  · exact ⟨by assumption, h⟩
  · exact absurd h (by assumption)
def addF : List V → Option (V × List Blk)
  | [.agg [.int .i64 n, .int .i64 d], .agg [.int .i64 m, .int .i64 c]] => some (t3 (addv n d m c), [])
  | _ => none
theorem addF_eq (n d m c : Int) : addF [.agg [.int .i64 n, .int .i64 d], .agg [.int .i64 m, .int .i64 c]] = some (t3 (addv n d m c), []) := rfl
theorem add_snd {J : World → Prop} : Snd Try.prog J 28 addF := by
  intro args r bs h
  unfold addF at h
  split at h
  · rename_i n d m c
    obtain ⟨rfl, rfl⟩ := some_pair h
    by_cases hc : chk2 n d m c = 0
    · rw [addv, if_pos hc]
      exact sound_plain (callOk Try.func28 rfl rfl) rfl rfl fun w _ => fadd_ok n d m c w (both_ok hc).1 (both_ok hc).2
    · rw [addv, if_neg hc]
      exact sound_plain (callOk Try.func28 rfl rfl) rfl rfl fun w _ => fadd_bad n d m c _ w rfl hc
  · cases h
def mulw (n d m c : Int) : Int × Int × Int := if chk2 n d m c = 0 then mulv n d m c else (0, 0, chk2 n d m c)
def mulF : List V → Option (V × List Blk)
  | [.agg [.int .i64 n, .int .i64 d], .agg [.int .i64 m, .int .i64 c]] => some (t3 (mulw n d m c), [])
  | _ => none
theorem mulF_eq (n d m c : Int) : mulF [.agg [.int .i64 n, .int .i64 d], .agg [.int .i64 m, .int .i64 c]] = some (t3 (mulw n d m c), []) := rfl
theorem mul_snd {J : World → Prop} : Snd Try.prog J 29 mulF := by
  intro args r bs h
  unfold mulF at h
  split at h
  · rename_i n d m c
    obtain ⟨rfl, rfl⟩ := some_pair h
    by_cases hc : chk2 n d m c = 0
    · rw [mulw, if_pos hc]
      exact sound_plain (callOk Try.func29 rfl rfl) rfl rfl fun w _ => fmul_ok n d m c w (both_ok hc).1 (both_ok hc).2
    · rw [mulw, if_neg hc]
      exact sound_plain (callOk Try.func29 rfl rfl) rfl rfl fun w _ => fmul_bad n d m c _ w rfl hc
  · cases h
def lowF : List V → Option (V × List Blk)
  | [.agg [.int .i64 n, .int .i64 d]] => if -4000000000000000000 ≤ n ∧ n ≤ 4000000000000000000 ∧ 1 ≤ d ∧ d ≤ 4000000000000000000 then some (.agg [.int .i64 (Gcd.ln n d), .int .i64 (Gcd.ld n d)], []) else none
  | _ => none
theorem lowF_eq {n d : Int} (h : -4000000000000000000 ≤ n ∧ n ≤ 4000000000000000000 ∧ 1 ≤ d ∧ d ≤ 4000000000000000000) : lowF [.agg [.int .i64 n, .int .i64 d]] = some (.agg [.int .i64 (Gcd.ln n d), .int .i64 (Gcd.ld n d)], []) := by
  unfold lowF; simp only [h, and_self, if_true]
theorem low_snd {J : World → Prop} : Snd Try.prog J 31 lowF := by
  intro args r bs h
  unfold lowF at h
  split at h
  · rename_i n d
    split at h
    · rename_i hc
      obtain ⟨rfl, rfl⟩ := some_pair h
      exact sound_plain (callOk Try.func31 rfl rfl) rfl rfl fun w _ => lowest_any n d w hc.1 hc.2.1 hc.2.2.1 hc.2.2.2
    · cases h
  · cases h
def toldF : List V → Option (V × List Blk)
  | [.agg [.int .i64 n, .int .i64 d]] => if -4000000000000000000 ≤ n ∧ n ≤ 4000000000000000000 ∧ 1 ≤ d ∧ d ≤ 4000000000000000000 then some (t3 (tl n d), []) else none
  | _ => none
theorem toldF_eq {n d : Int} (h : -4000000000000000000 ≤ n ∧ n ≤ 4000000000000000000 ∧ 1 ≤ d ∧ d ≤ 4000000000000000000) : toldF [.agg [.int .i64 n, .int .i64 d]] = some (t3 (tl n d), []) := by
  unfold toldF; simp only [h, and_self, if_true]
theorem told_snd {J : World → Prop} : Snd Try.prog J 32 toldF := by
  intro args r bs h
  unfold toldF at h
  split at h
  · rename_i n d
    split at h
    · rename_i hc
      obtain ⟨rfl, rfl⟩ := some_pair h
      exact sound_plain (callOk Try.func32 rfl rfl) rfl rfl fun w _ => rtold_any n d w hc.1 hc.2.1 hc.2.2.1 hc.2.2.2
    · cases h
  · cases h
def rmulF : List V → Option (V × List Blk)
  | [.agg [.int .i64 n, .int .i64 d], .agg [.int .i64 m, .int .i64 c]] => if chk2 n d m c = 0 then some (t3 (mulv n d m c), []) else none
  | _ => none
theorem rmulF_eq {n d m c : Int} (h : chk2 n d m c = 0) : rmulF [.agg [.int .i64 n, .int .i64 d], .agg [.int .i64 m, .int .i64 c]] = some (t3 (mulv n d m c), []) := by
  unfold rmulF; simp only [h, if_true]
theorem rmul_snd {J : World → Prop} : Snd Try.prog J 33 rmulF := by
  intro args r bs h
  unfold rmulF at h
  split at h
  · rename_i n d m c
    split at h
    · rename_i hc
      obtain ⟨rfl, rfl⟩ := some_pair h
      exact sound_plain (callOk Try.func33 rfl rfl) rfl rfl fun w _ => rmul_ok n d m c w (both_ok hc).1 (both_ok hc).2
    · cases h
  · cases h
def fracPhi : Phi := [(27, normF), (28, addF), (29, mulF), (21, rfracF), (30, checkF), (31, lowF), (32, toldF), (33, rmulF)]
theorem fracPhi_ok {J : World → Prop} (hJ : Stable J) : PhiOk Try.prog J fracPhi := ⟨norm_snd, add_snd, mul_snd, rfrac_snd hJ, check_snd, low_snd, told_snd, rmul_snd, trivial⟩
set_option maxRecDepth 20000 in
theorem fs_law {J : World → Prop} (hJ : Stable J) (n d m c : Int) : SoundAt Try.prog J 7 [.agg [.int .i64 n, .int .i64 d], .agg [.int .i64 m, .int .i64 c]] (.bool true) [] := by
  refine evFn (l := fracPhi) (nv := nv0) (fz := fz0) (dr := dr7) (dd := dd7) (fracPhi_ok hJ) hJ Try.func7 rfl rfl (Nat.le_of_ble_eq_true rfl) drOk7 ?_
  dsimp only [Try.f7, dr7, dd7, Option.getD_some]
  refine ev_start ?_
  have c00 : chk 0 0 = 6 := rfl
  by_cases h1 : chk n d = 0
  · by_cases h2 : chk m c = 0
    · have hn : nrm n d = (Gcd.ln n d, Gcd.ld n d, 0) := by rw [nrm, if_pos h1]
      have h12 : chk2 n d m c = 0 := by rw [chk2, if_pos h1]; exact h2
      have ha : addv n d m c = tl (n * c + m * d) (d * c) := by rw [addv, if_pos h12]
      have hm : mulw n d m c = mulv n d m c := by rw [mulw, if_pos h12]
      obtain ⟨a0, a1, a2, a3⟩ := of_chk h1
      obtain ⟨b0, b1, b2, b3⟩ := of_chk h2
      have p0 : -1000000000000000000 ≤ n * c ∧ n * c ≤ 1000000000000000000 := prod_bd a0 a1 b2 b3
      have p1 : -1000000000000000000 ≤ m * d ∧ m * d ≤ 1000000000000000000 := prod_bd b0 b1 a2 a3
      have p2 : 1 ≤ d * c ∧ d * c ≤ 1000000000000 := den_bd a2 a3 b2 b3
      generalize hA : addv n d m c = A at ha
      generalize hM : mulw n d m c = M at hm
      obtain ⟨A1, A2, A3⟩ := A
      obtain ⟨M1, M2, M3⟩ := M
      simp (disch := (first | omega | assumption)) only [fracPhi, normF_eq, addF_eq, mulF_eq, rfracF_1, rfracF_2, checkF_eq, chk_same, t3_eq, hn, hA, hM, h1, h2, c00, lowF_eq, toldF_eq, rmulF_eq, ← ha, ← hm, fillV, V.plain, V.plainL, Blk.plain, List.size_toArray, mapO_nil, mapO_cons, Option.isNone_none, Option.isNone_some, beqT, beqF, oI_not, mkX_e, phi_nil, phi_cons, bin_eql_bool, bin_neq_bool, bin_eql_agg, bin_neq_agg, eqV, eqFs, eqK_int, eqK_bool', eqK_str, mkX_T, mkX_Φ, mkX_n, mkX_f, mkX_d, mkX_r, nv0_at, fz0_at, evQ_dr, evD_zero, evD_nil, evD_cons, evD_guard, mild_none, mild_new, Option.getD_some, Option.getD_none, evQ_seq, evQ_region, evQ_block, evQ_cond, evQ_ret, evQ_skip, evQ_exit, evO_cons, evO_nil, evO_guard, freezeL_nil, oS_some, oS_none, oS_ite, oS_ite', oB_bool, oI_true, oI_false, oI_not, oE_normal, oE_exit, oE_ret, bQ_normal, bQ_ret, bQ_exit, lQ_normal, lQ_ret, lQ_exit, List.zipIdx_cons, List.zipIdx_nil, List.map_cons, List.map_nil, evalOp, opd_const, opd_tmp, opd_func, ofC_int, ofC_bool, ofC_str, ofC_nil, app_none, app_new, app_write, app_change, putE_some, putE_none, setA_cons, setA_nil, setH_cons, setH_nil, mapA_cons, mapA_nil, look_cons, look_nil, e_mk, h_mk, drop_nil, drop_mk, keep_mk, Nat.reduceAdd, Nat.reduceLT, Nat.reduceEqDiff, Nat.reduceMul, Nat.reduceLeDiff, reduceIte, dstOk_some, dstOk_none, guardT_eq, true_and, and_true, Bool.not_false, Bool.not_true, selB_true, selB_false, Nat.reduceBEq, mem_nil, mem_cons, kpL_nil, kpL_cons, drL_nil, drL_cons, closed_mk, V.refsIn, V.refsInL, Blk.refsIn, List.all_cons, List.all_nil, lenV, bin_add, bin_sub, bin_mul, bin_quo, bin_rem, bin_eql, bin_neq, bin_lss, bin_leq, bin_gtr, bin_geq, un_neg, un_not, post_ret, post_normal, St.init, reduceCtorEq, Bool.false_eq_true, List.length_map, Nat.reduceBEq, Bool.or_false, Bool.or_true, Bool.false_or, Bool.true_or, beq_self_eq_true, Option.map_some, Option.map_none, Option.bind_some, List.getElem?_cons_zero, List.getElem?_cons_succ, scalar, stor, isAggV, V.cells, List.cons_append, List.nil_append, if_true, if_false, wrap_of, callV, V.dataL, V.data, Bool.and_true, Bool.true_and, fresh, names, List.all_nil, List.all_cons, V.ren, V.renL, retV, resV, packL, packV, packC, getBlks, wrapR, subV, putV, decide_true, decide_false, TK.agg, List.length_cons, List.length_nil, List.take_succ_cons, List.take_zero, List.drop_succ_cons, List.drop_zero, List.take_nil, List.drop_nil, Nat.zero_add, Nat.add_zero, List.append_nil, List.getElem?_nil, elemsV, ro, ro0, ro1, roC, ty2, ty3, ty4, ty5, ty6, ty7, ty8, ty9, ty10, ty11, ty12, ty13, ty14, ty18, ty19, ty21, ty22, ty23, ty32, ty33, ty38, ty44, ty45, ty59, ty63, ty64, ty66, ty67, ty70, ty71, ty91, ty94, ty103, ty104, ty107, ty108, ty109, ty111, ty113, ty114, ty115, ty117, ty122, ty123, ty124, ty129, ty130, ty134, ty135, ty140, ty141, ty145, ty146, ty147, ty150, ty151, ty152, ty153, ty154, ty155, eqs33, eqs45, eqs64, eqs71, eqs104, eqs109, eqs115]
    · have hn : nrm n d = (Gcd.ln n d, Gcd.ld n d, 0) := by rw [nrm, if_pos h1]
      have h12 : chk2 n d m c = chk m c := by rw [chk2, if_pos h1]
      have ha : addv n d m c = (0, 0, chk m c) := by rw [addv, h12, if_neg h2]
      have hm : mulw n d m c = (0, 0, chk m c) := by rw [mulw, h12, if_neg h2]
      obtain ⟨a0, a1, a2, a3⟩ := of_chk h1
      simp (disch := (first | omega | assumption)) only [fracPhi, normF_eq, addF_eq, mulF_eq, rfracF_1, rfracF_2, checkF_eq, chk_same, t3_eq, hn, ha, hm, h1, h2, c00, lowF_eq, fillV, V.plain, V.plainL, Blk.plain, List.size_toArray, mapO_nil, mapO_cons, Option.isNone_none, Option.isNone_some, beqT, beqF, oI_not, mkX_e, phi_nil, phi_cons, bin_eql_bool, bin_neq_bool, bin_eql_agg, bin_neq_agg, eqV, eqFs, eqK_int, eqK_bool', eqK_str, mkX_T, mkX_Φ, mkX_n, mkX_f, mkX_d, mkX_r, nv0_at, fz0_at, evQ_dr, evD_zero, evD_nil, evD_cons, evD_guard, mild_none, mild_new, Option.getD_some, Option.getD_none, evQ_seq, evQ_region, evQ_block, evQ_cond, evQ_ret, evQ_skip, evQ_exit, evO_cons, evO_nil, evO_guard, freezeL_nil, oS_some, oS_none, oS_ite, oS_ite', oB_bool, oI_true, oI_false, oI_not, oE_normal, oE_exit, oE_ret, bQ_normal, bQ_ret, bQ_exit, lQ_normal, lQ_ret, lQ_exit, List.zipIdx_cons, List.zipIdx_nil, List.map_cons, List.map_nil, evalOp, opd_const, opd_tmp, opd_func, ofC_int, ofC_bool, ofC_str, ofC_nil, app_none, app_new, app_write, app_change, putE_some, putE_none, setA_cons, setA_nil, setH_cons, setH_nil, mapA_cons, mapA_nil, look_cons, look_nil, e_mk, h_mk, drop_nil, drop_mk, keep_mk, Nat.reduceAdd, Nat.reduceLT, Nat.reduceEqDiff, Nat.reduceMul, Nat.reduceLeDiff, reduceIte, dstOk_some, dstOk_none, guardT_eq, true_and, and_true, Bool.not_false, Bool.not_true, selB_true, selB_false, Nat.reduceBEq, mem_nil, mem_cons, kpL_nil, kpL_cons, drL_nil, drL_cons, closed_mk, V.refsIn, V.refsInL, Blk.refsIn, List.all_cons, List.all_nil, lenV, bin_add, bin_sub, bin_mul, bin_quo, bin_rem, bin_eql, bin_neq, bin_lss, bin_leq, bin_gtr, bin_geq, un_neg, un_not, post_ret, post_normal, St.init, reduceCtorEq, Bool.false_eq_true, List.length_map, Nat.reduceBEq, Bool.or_false, Bool.or_true, Bool.false_or, Bool.true_or, beq_self_eq_true, Option.map_some, Option.map_none, Option.bind_some, List.getElem?_cons_zero, List.getElem?_cons_succ, scalar, stor, isAggV, V.cells, List.cons_append, List.nil_append, if_true, if_false, wrap_of, callV, V.dataL, V.data, Bool.and_true, Bool.true_and, fresh, names, List.all_nil, List.all_cons, V.ren, V.renL, retV, resV, packL, packV, packC, getBlks, wrapR, subV, putV, decide_true, decide_false, TK.agg, List.length_cons, List.length_nil, List.take_succ_cons, List.take_zero, List.drop_succ_cons, List.drop_zero, List.take_nil, List.drop_nil, Nat.zero_add, Nat.add_zero, List.append_nil, List.getElem?_nil, elemsV, ro, ro0, ro1, roC, ty2, ty3, ty4, ty5, ty6, ty7, ty8, ty9, ty10, ty11, ty12, ty13, ty14, ty18, ty19, ty21, ty22, ty23, ty32, ty33, ty38, ty44, ty45, ty59, ty63, ty64, ty66, ty67, ty70, ty71, ty91, ty94, ty103, ty104, ty107, ty108, ty109, ty111, ty113, ty114, ty115, ty117, ty122, ty123, ty124, ty129, ty130, ty134, ty135, ty140, ty141, ty145, ty146, ty147, ty150, ty151, ty152, ty153, ty154, ty155, eqs33, eqs45, eqs64, eqs71, eqs104, eqs109, eqs115]
  · have hn : nrm n d = (0, 0, chk n d) := by rw [nrm, if_neg h1]
    have h12 : chk2 n d m c = chk n d := by rw [chk2, if_neg h1]
    have ha : addv n d m c = (0, 0, chk n d) := by rw [addv, h12, if_neg h1]
    have hm : mulw n d m c = (0, 0, chk n d) := by rw [mulw, h12, if_neg h1]
    simp (disch := (first | omega | assumption)) only [fracPhi, normF_eq, addF_eq, mulF_eq, rfracF_1, rfracF_2, checkF_eq, chk_same, t3_eq, hn, ha, hm, h1, c00, fillV, V.plain, V.plainL, Blk.plain, List.size_toArray, mapO_nil, mapO_cons, Option.isNone_none, Option.isNone_some, beqT, beqF, oI_not, mkX_e, phi_nil, phi_cons, bin_eql_bool, bin_neq_bool, bin_eql_agg, bin_neq_agg, eqV, eqFs, eqK_int, eqK_bool', eqK_str, mkX_T, mkX_Φ, mkX_n, mkX_f, mkX_d, mkX_r, nv0_at, fz0_at, evQ_dr, evD_zero, evD_nil, evD_cons, evD_guard, mild_none, mild_new, Option.getD_some, Option.getD_none, evQ_seq, evQ_region, evQ_block, evQ_cond, evQ_ret, evQ_skip, evQ_exit, evO_cons, evO_nil, evO_guard, freezeL_nil, oS_some, oS_none, oS_ite, oS_ite', oB_bool, oI_true, oI_false, oI_not, oE_normal, oE_exit, oE_ret, bQ_normal, bQ_ret, bQ_exit, lQ_normal, lQ_ret, lQ_exit, List.zipIdx_cons, List.zipIdx_nil, List.map_cons, List.map_nil, evalOp, opd_const, opd_tmp, opd_func, ofC_int, ofC_bool, ofC_str, ofC_nil, app_none, app_new, app_write, app_change, putE_some, putE_none, setA_cons, setA_nil, setH_cons, setH_nil, mapA_cons, mapA_nil, look_cons, look_nil, e_mk, h_mk, drop_nil, drop_mk, keep_mk, Nat.reduceAdd, Nat.reduceLT, Nat.reduceEqDiff, Nat.reduceMul, Nat.reduceLeDiff, reduceIte, dstOk_some, dstOk_none, guardT_eq, true_and, and_true, Bool.not_false, Bool.not_true, selB_true, selB_false, Nat.reduceBEq, mem_nil, mem_cons, kpL_nil, kpL_cons, drL_nil, drL_cons, closed_mk, V.refsIn, V.refsInL, Blk.refsIn, List.all_cons, List.all_nil, lenV, bin_add, bin_sub, bin_mul, bin_quo, bin_rem, bin_eql, bin_neq, bin_lss, bin_leq, bin_gtr, bin_geq, un_neg, un_not, post_ret, post_normal, St.init, reduceCtorEq, Bool.false_eq_true, List.length_map, Nat.reduceBEq, Bool.or_false, Bool.or_true, Bool.false_or, Bool.true_or, beq_self_eq_true, Option.map_some, Option.map_none, Option.bind_some, List.getElem?_cons_zero, List.getElem?_cons_succ, scalar, stor, isAggV, V.cells, List.cons_append, List.nil_append, if_true, if_false, wrap_of, callV, V.dataL, V.data, Bool.and_true, Bool.true_and, fresh, names, List.all_nil, List.all_cons, V.ren, V.renL, retV, resV, packL, packV, packC, getBlks, wrapR, subV, putV, decide_true, decide_false, TK.agg, List.length_cons, List.length_nil, List.take_succ_cons, List.take_zero, List.drop_succ_cons, List.drop_zero, List.take_nil, List.drop_nil, Nat.zero_add, Nat.add_zero, List.append_nil, List.getElem?_nil, elemsV, ro, ro0, ro1, roC, ty2, ty3, ty4, ty5, ty6, ty7, ty8, ty9, ty10, ty11, ty12, ty13, ty14, ty18, ty19, ty21, ty22, ty23, ty32, ty33, ty38, ty44, ty45, ty59, ty63, ty64, ty66, ty67, ty70, ty71, ty91, ty94, ty103, ty104, ty107, ty108, ty109, ty111, ty113, ty114, ty115, ty117, ty122, ty123, ty124, ty129, ty130, ty134, ty135, ty140, ty141, ty145, ty146, ty147, ty150, ty151, ty152, ty153, ty154, ty155, eqs33, eqs45, eqs64, eqs71, eqs104, eqs109, eqs115]
theorem walkFracSays (n d : Int) (_hn : (Lit.int .i64 n).wf = true) (_hd : (Lit.int .i64 d).wf = true) (m c : Int) (_hm : (Lit.int .i64 m).wf = true) (_hc : (Lit.int .i64 c).wf = true) (W : World) :
    Calls Try.prog 7 #[.agg #[.int .i64 n, .int .i64 d], .agg #[.int .i64 m, .int .i64 c]] W fun e w' => e = .returned (.bool true) ∧ Below W.heap.size W w' :=
  (fs_law (J := J0) stable0 n d m c).calls rfl trivial (vals := [.agg #[.int .i64 n, .int .i64 d], .agg #[.int .i64 m, .int .i64 c]]) rfl (rels_of rfl)
end Go.Proofs.Ythndfckapbbbfaa
